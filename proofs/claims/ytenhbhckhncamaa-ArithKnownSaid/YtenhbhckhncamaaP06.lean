/-
  Contracts of package lit: rows of literals (Const, Number, Turn, Over).
-/
import Derived.Test.YtenhbhckhncamaaP05
import Derived.Deep.QuietTactic
import Derived.BigQuiet
namespace Go.Proofs.Ytenhbhckhncamaa
open Go.ChangeShapes Go.WideShapes Go.ChangeAt Go.RowKit
set_option linter.unusedVariables false

theorem lit_info : (Try.prog.info? 34).map (fun i => (i.zero, i.size, i.bytes)) = some (some (.int .u32 0), 1, 4) := by kernel_rfl

def constL (n k : Nat) : List Nat := (List.range k).map fun i => n / 2 ^ i % 2
theorem constL_succ (n k : Nat) : constL n (k + 1) = constL n k ++ [n / 2 ^ k % 2] := by simp [constL, List.range_succ]
theorem constL_length (n k : Nat) : (constL n k).length = k := by simp [constL]
theorem shr_spell (n k : Nat) : n / 2 ^ k / 2 = n / 2 ^ (k + 1) := by rw [Nat.div_div_eq_div_mul, Nat.pow_succ]
theorem bits_and1w (n : Nat) (h : n < 18446744073709551616) : bits .and .u64 (n : Int) 1 = ((n % 2 : Nat) : Int) := by
  rw [show (1 : Int) = ((1 : Nat) : Int) from rfl, u64_and_nat _ _ h (by omega), nat_mask1]

set_option maxHeartbeats 400000 in
theorem lit_const (n m : Nat) (x : Int) (w : World) (hn : n < 18446744073709551616) (hx : (min x 64).toNat = m) :
    Calls Try.prog 21 #[.int .u64 n, .int .i64 x] w fun e w' => ∃ a c, e = .returned (.slice a m c) ∧ Own w' 34 a m c (nats .u32 (constL n m)) ∧ Stepped w w' [] (ft a) := by
  have HX := Lib.hid hx; clear hx
  have hm64 : m ≤ 64 := by have := HX.out; omega
  by_cases h64 : x ≤ 64
  all_goals
    go_enter Try.func21, Try.ntmps21
    go_wp2
    go_loopw [0, 5, 8] (fun ns v i wr => ∃ (k : Nat) (a : Option Addr) (c : Nat), k ≤ m ∧ i = .int .i64 k ∧ ns = .int .u64 (n / 2 ^ k : Nat) ∧ v = .slice a k c ∧ Own wr 34 a k c (nats .u32 (constL n k)) ∧ Stepped w wr [] (ft a)) (fun _ _ i _ => m - (intOf i).toNat)
    case atStart => exact ⟨0, none, 0, Nat.zero_le _, rfl, by simp, rfl, Own.nil _ _, .refl _ _⟩
    case round =>
      obtain ⟨k, a, c, hk, rfl, rfl, rfl, hown, hst⟩ := hrel
      have hb : n / 2 ^ k < 18446744073709551616 := Nat.lt_of_le_of_lt (Nat.div_le_self _ _) hn
      have HB := Lib.hid (bits_and1w _ hb)
      by_cases hlt : k < m
      · have hxk : (k : Int) < x ∧ k < 64 := by have := HX.out; omega
        obtain ⟨hxk, hk64⟩ := hxk
        generalize hq : n / 2 ^ k = q at *
        have Hq := Lib.hid hq; clear hq
        have HB' := Lib.hid (show IntKind.u32.wrap (bits BinOp.and IntKind.u64 (q : Int) 1) = ((q % 2 : Nat) : Int) by rw [HB.out, IntKind.wrap_u32']; omega)
        go_wp2_with (at_builtin; refine wpList_push rfl rfl Try.underlying25 lit_info rfl rfl rfl hown rfl (by unfold maxLen; omega) (by omega) ?_; intro a' c' w' hown' hst')
        go_roundw
        case rel => exact ⟨k + 1, a', c', by omega, by go_num, by rw [← shr_spell, Hq.out]; go_num, rfl, by rw [constL_succ, Hq.out, ← nats_append, ← HB'.out]; exact hown', hst.trans hst'⟩
        case measure => simp [intOf]; omega
      · obtain rfl : k = m := by omega
        have hxk : ¬ (k : Int) < min x 64 := by have := HX.out; omega
        have hxk' : ¬ (k : Int) < x ∨ ¬ k < 64 := by omega
        go_wp2
        go_ret
        exact ⟨a, c, rfl, hown, hst⟩

/-- the number whose bits a row of constants is -/
def numV : List Nat → Nat
  | [] => 0
  | b :: r => b + 2 * numV r
def numR (row : List Nat) : Nat := if decide (row.length ≤ 64) && row.all (· ≤ 1) then numV row else 0
def numB (row : List Nat) : Bool := decide (row.length ≤ 64) && row.all (· ≤ 1)
theorem numR_eq (row : List Nat) : numR row = if numB row then numV row else 0 := rfl
theorem numV_snoc (l : List Nat) (b : Nat) : numV (l ++ [b]) = numV l + b * 2 ^ l.length := by
  induction l with
  | nil => simp [numV]
  | cons x l ih =>
    have h2 : b * (2 ^ l.length * 2) = 2 * (b * 2 ^ l.length) := by rw [← Nat.mul_assoc, Nat.mul_comm]
    simp only [List.cons_append, numV, ih, List.length_cons, Nat.pow_succ]
    omega
theorem numV_lt (l : List Nat) (h : ∀ b ∈ l, b ≤ 1) : numV l < 2 ^ l.length := by
  induction l with
  | nil => simp [numV]
  | cons x l ih =>
    have h1 := ih fun b hb => h b (List.mem_cons_of_mem _ hb)
    have h2 := h x (List.mem_cons_self)
    simp only [numV, List.length_cons, Nat.pow_succ]
    omega
theorem numV_constL (n k : Nat) : numV (constL n k) = n % 2 ^ k := by
  induction k with
  | zero => simp [constL, numV, Nat.mod_one]
  | succ k ih => rw [constL_succ, numV_snoc, ih, constL_length, Nat.mod_pow_succ, Nat.mul_comm]
theorem take_snoc {α : Type} (l : List α) (k : Nat) (h : k < l.length) : l.take (k + 1) = l.take k ++ [l[k]] := by
  rw [List.take_succ_eq_append_getElem h]
theorem num_spell (v b k : Nat) (hv : v < 2 ^ k) (hb : b ≤ 1) (hk : k < 64) : bits .or .u64 (v : Int) (IntKind.u64.wrap ((b : Int) * 2 ^ k)) = ((v + b * 2 ^ k : Nat) : Int) := by
  have h1 : 2 ^ k ≤ 2 ^ 63 := Nat.pow_le_pow_right (by omega) (by omega)
  have h2 : b * 2 ^ k < 18446744073709551616 := by
    have : b * 2 ^ k ≤ 1 * 2 ^ k := Nat.mul_le_mul_right _ hb
    omega
  have h3 : IntKind.u64.wrap ((b : Int) * 2 ^ k) = ((b * 2 ^ k : Nat) : Int) := by
    rw [IntKind.wrap_u64]
    push_cast
    have : ((b * 2 ^ k : Nat) : Int) < 18446744073709551616 := by omega
    push_cast at this
    have h0 : (0 : Int) ≤ (b : Int) * 2 ^ k := by
      have : (0 : Int) ≤ ((b * 2 ^ k : Nat) : Int) := by omega
      push_cast at this
      exact this
    omega
  rw [h3, u64_or_nat _ _ (by omega) h2, Nat.or_comm, nat_join k _ _ (by simp) hv, Nat.add_comm]

set_option maxHeartbeats 400000 in
theorem lit_number (a : Option Addr) (c n : Nat) (row : List Nat) (w : World) (hl : row.length = n) (hm : n ≤ 140737488355328) (hs : SlN w .u32 a row) :
    Calls Try.prog 14 #[.slice a n c] w fun e w' => e = .returned (.tuple #[.int .u64 (numR row : Nat), .bool (numB row)]) ∧ w = w' := by
  by_cases h64 : n ≤ 64
  · have HL := Lib.hid hl; clear hl
    go_enter Try.func14, Try.ntmps14
    go_wp2
    go_loop [4, 12] (fun ns i => ∃ (k : Nat), k ≤ n ∧ i = .int .i64 k ∧ ns = .int .u64 (numV (row.take k) : Nat) ∧ ∀ b ∈ row.take k, b ≤ 1) (fun _ i => n - (intOf i).toNat)
    case atStart => exact ⟨0, Nat.zero_le _, rfl, by simp [numV], by simp⟩
    case round =>
      obtain ⟨k, hk, rfl, rfl, hall⟩ := hrel
      have HA := Lib.hid hall; clear hall
      by_cases hlt : k < n
      · have hkl : k < row.length := by have := HL.out; omega
        obtain ⟨ad, rfl, hc⟩ := hs k hkl
        generalize hb : row[k] = b at *
        have HB := Lib.hid hb; clear hb
        by_cases h1 : b ≤ 1
        · have hv := numV_lt _ HA.out
          rw [List.length_take, Nat.min_eq_left (by omega)] at hv
          have HS := Lib.hid (num_spell _ b k hv h1 (by omega)); clear hv
          go_wp2
          go_round
          case rel =>
            refine ⟨k + 1, by omega, by go_num, ?_, ?_⟩
            · rw [take_snoc _ _ hkl, HB.out, numV_snoc, List.length_take, Nat.min_eq_left (by omega), ← HS.out]
            · rw [take_snoc _ _ hkl, HB.out]
              intro x hx
              rcases List.mem_append.1 hx with h | h
              · exact HA.out x h
              · simp at h; omega
          case measure => simp [intOf]; omega
        · have hf : numB row = false := by
            have : b ∈ row := HB.out ▸ List.getElem_mem hkl
            simp only [numB, Bool.and_eq_false_iff, List.all_eq_false]
            exact .inr ⟨b, this, by simpa using h1⟩
          have HF := Lib.hid hf; clear hf
          go_wp2
          go_ret2
          rw [numR_eq, HF.out]
          exact ⟨rfl, rfl⟩
      · obtain rfl : k = n := by omega
        have hf : numB row = true := by
          have := HA.out
          rw [List.take_of_length_le (by have := HL.out; omega)] at this
          simp only [numB, Bool.and_eq_true, decide_eq_true_eq, List.all_eq_true]
          exact ⟨by have := HL.out; omega, this⟩
        have HF := Lib.hid hf; clear hf
        have HT := Lib.hid (show row.take k = row from List.take_of_length_le (by have := HL.out; omega))
        go_wp2
        go_ret2
        rw [numR_eq, HF.out, HT.out]
        exact ⟨rfl, rfl⟩
  · have hf : numB row = false := by simp [numB]; omega
    have HF := Lib.hid hf; clear hf hl
    go_enter Try.func14, Try.ntmps14
    go_wp2
    go_ret2
    rw [numR_eq, HF.out]
    exact ⟨rfl, rfl⟩

set_option maxHeartbeats 400000 in
/-- A row, each literal as the function value tells it (Not itself). -/
theorem lit_each_not (a : Option Addr) (c n : Nat) (row : List Nat) (w : World) (hl : row.length = n) (hm : n ≤ 1000000) (hs : SlN w .u32 a row) (hr : Lits row) :
    Calls Try.prog 46 #[.slice a n c, .func (.func 47) #[] #[]] w fun e w' => ∃ a' c', e = .returned (.slice a' n c') ∧ Own w' 34 a' n c' (nats .u32 (row.map ntL)) ∧ Stepped w w' [] (ft a') := by
  have HL := Lib.hid hl; clear hl
  have HR := Lib.hid hr; clear hr
  go_enter Try.func46, Try.ntmps46
  go_wp2
  go_loopw [5, 10] (fun v i wr => ∃ (k : Nat) (a' : Option Addr) (c' : Nat), k ≤ n ∧ i = .int .i64 k ∧ v = .slice a' k c' ∧ Own wr 34 a' k c' (nats .u32 ((row.take k).map ntL)) ∧ Stepped w wr [] (ft a')) (fun _ i _ => n - (intOf i).toNat)
  case atStart => exact ⟨0, none, 0, Nat.zero_le _, rfl, rfl, Own.nil _ _, .refl _ _⟩
  case round =>
    obtain ⟨k, a', c', hk, rfl, rfl, hown, hst⟩ := hrel
    by_cases hlt : k < n
    · have hkl : k < row.length := by have := HL.out; omega
      obtain ⟨ad, rfl, hc⟩ := (hs.kept0 hst.kept) k hkl
      have hb := HR.out _ (List.getElem_mem hkl)
      have HT := Lib.hid (take_snoc row k hkl)
      generalize row[k] = b at *
      go_wp2_with (first
        | (go_at_call 47; refine (lit_not _ _ hb).mono ?_; rintro e w' ⟨rfl, rfl⟩)
        | (at_builtin; refine wpList_push rfl rfl Try.underlying25 lit_info rfl rfl rfl hown rfl (by unfold maxLen; omega) (by omega) ?_; intro a1 c1 w1 hown1 hst1))
      go_roundw
      case rel => exact ⟨k + 1, a1, c1, by omega, by go_num, rfl, by rw [HT.out, List.map_append, List.map_cons, List.map_nil, ← nats_append]; exact hown1, hst.trans hst1⟩
      case measure => simp [intOf]; omega
    · obtain rfl : k = n := by omega
      have HT := Lib.hid (show row.take k = row from List.take_of_length_le (by have := HL.out; omega))
      go_wp2
      go_ret
      exact ⟨a', c', rfl, by rw [← HT.out]; exact hown, hst⟩

theorem lit_turn (a : Option Addr) (c n : Nat) (row : List Nat) (w : World) (hl : row.length = n) (hm : n ≤ 1000000) (hs : SlN w .u32 a row) (hr : Lits row) :
    Calls Try.prog 19 #[.slice a n c] w fun e w' => ∃ a' c', e = .returned (.slice a' n c') ∧ Own w' 34 a' n c' (nats .u32 (row.map ntL)) ∧ Stepped w w' [] (ft a') := by
  have HL := Lib.hid hl; clear hl
  go_enter Try.func19, Try.ntmps19
  go_wp2_with (go_at_call 46; refine (lit_each_not _ _ _ row _ HL.out hm hs hr).mono ?_; rintro e w' ⟨a', c', rfl, hown, hst⟩)
  go_ret
  exact ⟨a', c', rfl, hown, hst⟩

def overL (bys : List Nat) (l : Nat) : Nat := ifL (bys.getD (l / 2) 0) (decide (l % 2 = 1))

theorem cell_alloc {w : World} {a : Addr} {v : Value} (h : w.cell? a = some v) (o : Obj) : (w.alloc o).cell? a = some v := ((Kept.refl [] w).alloc o).cell h (by simp)

end Go.Proofs.Ytenhbhckhncamaa
