/-
  Contracts of package lit: rows of literals (Const, Number, Turn, Over).
-/
import Derived.Test.YtdmcdhkkbkgnbaaP05
import Derived.Deep.QuietTactic
import Derived.BigQuiet
namespace Go.Proofs.Ytdmcdhkkbkgnbaa
open Go.ChangeShapes Go.WideShapes Go.ChangeAt Go.RowKit
set_option linter.unusedVariables false

theorem lit_info : (Try.prog.info? 41).map (fun i => (i.zero, i.size, i.bytes)) = some (some (.int .u32 0), 1, 4) := by kernel_rfl

def constL (n k : Nat) : List Nat := (List.range k).map fun i => n / 2 ^ i % 2
theorem constL_succ (n k : Nat) : constL n (k + 1) = constL n k ++ [n / 2 ^ k % 2] := by simp [constL, List.range_succ]
theorem constL_length (n k : Nat) : (constL n k).length = k := by simp [constL]
theorem shr_spell (n k : Nat) : n / 2 ^ k / 2 = n / 2 ^ (k + 1) := by rw [Nat.div_div_eq_div_mul, Nat.pow_succ]
theorem bits_and1w (n : Nat) (h : n < 18446744073709551616) : bits .and .u64 (n : Int) 1 = ((n % 2 : Nat) : Int) := by
  rw [show (1 : Int) = ((1 : Nat) : Int) from rfl, u64_and_nat _ _ h (by omega), nat_mask1]


/-- the number whose bits a row of constants is -/
def numV : List Nat → Nat
  | [] => 0
  | b :: r => b + 2 * numV r
def numR (row : List Nat) : Nat := if decide (row.length ≤ 64) && row.all (· ≤ 1) then numV row else 0
def numB (row : List Nat) : Bool := decide (row.length ≤ 64) && row.all (· ≤ 1)
theorem numR_eq (row : List Nat) : numR row = if numB row then numV row else 0 := rfl
theorem numV_snoc (l : List Nat) (b : Nat) : numV (l ++ [b]) = numV l + b * 2 ^ l.length := by
  induction l with
  | nil => simp [numV]
  | cons x l ih =>
    have h2 : b * (2 ^ l.length * 2) = 2 * (b * 2 ^ l.length) := by rw [← Nat.mul_assoc, Nat.mul_comm]
    simp only [List.cons_append, numV, ih, List.length_cons, Nat.pow_succ]
    omega
theorem numV_lt (l : List Nat) (h : ∀ b ∈ l, b ≤ 1) : numV l < 2 ^ l.length := by
  induction l with
  | nil => simp [numV]
  | cons x l ih =>
    have h1 := ih fun b hb => h b (List.mem_cons_of_mem _ hb)
    have h2 := h x (List.mem_cons_self)
    simp only [numV, List.length_cons, Nat.pow_succ]
    omega
theorem numV_constL (n k : Nat) : numV (constL n k) = n % 2 ^ k := by
  induction k with
  | zero => simp [constL, numV, Nat.mod_one]
  | succ k ih => rw [constL_succ, numV_snoc, ih, constL_length, Nat.mod_pow_succ, Nat.mul_comm]
theorem take_snoc {α : Type} (l : List α) (k : Nat) (h : k < l.length) : l.take (k + 1) = l.take k ++ [l[k]] := by
  rw [List.take_succ_eq_append_getElem h]
theorem num_spell (v b k : Nat) (hv : v < 2 ^ k) (hb : b ≤ 1) (hk : k < 64) : bits .or .u64 (v : Int) (IntKind.u64.wrap ((b : Int) * 2 ^ k)) = ((v + b * 2 ^ k : Nat) : Int) := by
  have h1 : 2 ^ k ≤ 2 ^ 63 := Nat.pow_le_pow_right (by omega) (by omega)
  have h2 : b * 2 ^ k < 18446744073709551616 := by
    have : b * 2 ^ k ≤ 1 * 2 ^ k := Nat.mul_le_mul_right _ hb
    omega
  have h3 : IntKind.u64.wrap ((b : Int) * 2 ^ k) = ((b * 2 ^ k : Nat) : Int) := by
    rw [IntKind.wrap_u64]
    push_cast
    have : ((b * 2 ^ k : Nat) : Int) < 18446744073709551616 := by omega
    push_cast at this
    have h0 : (0 : Int) ≤ (b : Int) * 2 ^ k := by
      have : (0 : Int) ≤ ((b * 2 ^ k : Nat) : Int) := by omega
      push_cast at this
      exact this
    omega
  rw [h3, u64_or_nat _ _ (by omega) h2, Nat.or_comm, nat_join k _ _ (by simp) hv, Nat.add_comm]


set_option maxHeartbeats 400000 in
/-- A row, each literal as the function value tells it (Not itself). -/
theorem lit_each_not (a : Option Addr) (c n : Nat) (row : List Nat) (w : World) (hl : row.length = n) (hm : n ≤ 1000000) (hs : SlN w .u32 a row) (hr : Lits row) :
    Calls Try.prog 80 #[.slice a n c, .func (.func 63) #[] #[]] w fun e w' => ∃ a' c', e = .returned (.slice a' n c') ∧ Own w' 41 a' n c' (nats .u32 (row.map ntL)) ∧ Stepped w w' [] (ft a') := by
  have HL := Lib.hid hl; clear hl
  have HR := Lib.hid hr; clear hr
  go_enter Try.func80, Try.ntmps80
  go_wp2
  go_loopw [5, 10] (fun v i wr => ∃ (k : Nat) (a' : Option Addr) (c' : Nat), k ≤ n ∧ i = .int .i64 k ∧ v = .slice a' k c' ∧ Own wr 41 a' k c' (nats .u32 ((row.take k).map ntL)) ∧ Stepped w wr [] (ft a')) (fun _ i _ => n - (intOf i).toNat)
  case atStart => exact ⟨0, none, 0, Nat.zero_le _, rfl, rfl, Own.nil _ _, .refl _ _⟩
  case round =>
    obtain ⟨k, a', c', hk, rfl, rfl, hown, hst⟩ := hrel
    by_cases hlt : k < n
    · have hkl : k < row.length := by have := HL.out; omega
      obtain ⟨ad, rfl, hc⟩ := (hs.kept0 hst.kept) k hkl
      have hb := HR.out _ (List.getElem_mem hkl)
      have HT := Lib.hid (take_snoc row k hkl)
      generalize row[k] = b at *
      go_wp2_with (first
        | (go_at_call 63; refine (lit_not _ _ hb).mono ?_; rintro e w' ⟨rfl, rfl⟩)
        | (at_builtin; refine wpList_push rfl rfl Try.underlying37 lit_info rfl rfl rfl hown rfl (by unfold maxLen; omega) (by omega) ?_; intro a1 c1 w1 hown1 hst1))
      go_roundw
      case rel => exact ⟨k + 1, a1, c1, by omega, by go_num, rfl, by rw [HT.out, List.map_append, List.map_cons, List.map_nil, ← nats_append]; exact hown1, hst.trans hst1⟩
      case measure => simp [intOf]; omega
    · obtain rfl : k = n := by omega
      have HT := Lib.hid (show row.take k = row from List.take_of_length_le (by have := HL.out; omega))
      go_wp2
      go_ret
      exact ⟨a', c', rfl, by rw [← HT.out]; exact hown, hst⟩


def overL (bys : List Nat) (l : Nat) : Nat := ifL (bys.getD (l / 2) 0) (decide (l % 2 = 1))

theorem lit_over1 (l : Nat) (p : Addr) (ab : Option Addr) (nb cb : Nat) (bys : List Nat) (w : World) (hl : l < 4294967296) (hb : bys.length = nb) (hm : nb ≤ 1000000) (hp : w.cell? p = some (.slice ab nb cb)) (hs : SlN w .u32 ab bys) (hr : Lits bys) (hi : l / 2 < nb) :
    Calls Try.prog 81 #[.int .u32 l, .pointer (some p)] w fun e w' => e = .returned (.int .u32 (overL bys l : Nat)) ∧ ∃ m, w' = w.drewN m := by
  obtain ⟨ad, rfl, hc⟩ := hs (l / 2) (by omega)
  have hb1 := hr _ (List.getElem_mem (show l / 2 < bys.length by omega))
  have HO := Lib.hid (show overL bys l = ifL bys[l / 2] (decide (l % 2 = 1)) by simp [overL, List.getD_eq_getElem?_getD, List.getElem?_eq_getElem (show l / 2 < bys.length by omega)])
  generalize bys[l / 2] = b at *
  clear hb
  have hi' : ((l / 2 : Nat) : Int) < (nb : Int) := by omega
  go_enter Try.func81, Try.ntmps81
  go_wp2_with fail
  go_quiet (first
    | (go_at_call 25; exact q_same (lit_node _ _ hl))
    | (go_at_call 71; exact q_same (lit_turned _ _ hl))
    | (go_at_call 65; exact q_same (lit_if _ _ _ hb1)))
  go_wp2
  go_ret
  exact ⟨by rw [HO.out]; rfl, _, rfl⟩

set_option maxHeartbeats 400000 in
theorem lit_each_over (a : Option Addr) (c n : Nat) (row : List Nat) (p : Addr) (ab : Option Addr) (nb cb : Nat) (bys : List Nat) (w : World) (hl : row.length = n) (hm : n ≤ 1000000) (hs : SlN w .u32 a row) (hr : Lits row)
    (hb : bys.length = nb) (hmb : nb ≤ 1000000) (hp : w.cell? p = some (.slice ab nb cb)) (hsb : SlN w .u32 ab bys) (hrb : Lits bys) (hi : ∀ l ∈ row, l / 2 < nb) :
    Calls Try.prog 80 #[.slice a n c, .func (.func 81) #[] #[.pointer (some p)]] w fun e w' => ∃ a' c', e = .returned (.slice a' n c') ∧ Own w' 41 a' n c' (nats .u32 (row.map (overL bys))) ∧ Stepped w w' [] (ft a') := by
  have HL := Lib.hid hl; clear hl
  have HR := Lib.hid hr; clear hr
  have HI := Lib.hid hi; clear hi
  have HC := Lib.hid (fun (l : Nat) (w : World) (h1 : l < 4294967296) (hp : w.cell? p = some (.slice ab nb cb)) (hsb : SlN w .u32 ab bys) (h2 : l / 2 < nb) => lit_over1 l p ab nb cb bys w h1 hb hmb hp hsb hrb h2)
  have HP := Lib.hid hp; clear hp hb hrb
  go_enter Try.func80, Try.ntmps80
  go_wp2
  go_loopw [5, 10] (fun v i wr => ∃ (k : Nat) (a' : Option Addr) (c' : Nat), k ≤ n ∧ i = .int .i64 k ∧ v = .slice a' k c' ∧ Own wr 41 a' k c' (nats .u32 ((row.take k).map (overL bys))) ∧ Stepped w wr [] (ft a')) (fun _ i _ => n - (intOf i).toNat)
  case atStart => exact ⟨0, none, 0, Nat.zero_le _, rfl, rfl, Own.nil _ _, .refl _ _⟩
  case round =>
    obtain ⟨k, a', c', hk, rfl, rfl, hown, hst⟩ := hrel
    by_cases hlt : k < n
    · have hkl : k < row.length := by have := HL.out; omega
      obtain ⟨ad, rfl, hc⟩ := (hs.kept0 hst.kept) k hkl
      have hb := HR.out _ (List.getElem_mem hkl)
      have hi := HI.out _ (List.getElem_mem hkl)
      have HT := Lib.hid (take_snoc row k hkl)
      have HQ := Lib.hid (HC.out row[k] wr hb (hst.kept.cell HP.out (by simp)) (hsb.kept0 hst.kept) hi)
      generalize row[k] = b at *
      go_wp2_with (first
        | (go_at_call 81; refine HQ.out.mono ?_; rintro e w' ⟨rfl, m, rfl⟩)
        | (at_builtin; refine wpList_push rfl rfl Try.underlying37 lit_info rfl rfl rfl (hown.drewN m) rfl (by unfold maxLen; omega) (by omega) ?_; intro a1 c1 w1 hown1 hst1))
      go_roundw
      case rel => exact ⟨k + 1, a1, c1, by omega, by go_num, rfl, by rw [HT.out, List.map_append, List.map_cons, List.map_nil, ← nats_append]; exact hown1, (hst.drewN m).trans hst1⟩
      case measure => simp [intOf]; omega
    · obtain rfl : k = n := by omega
      have HT := Lib.hid (show row.take k = row from List.take_of_length_le (by have := HL.out; omega))
      go_wp2
      go_ret
      exact ⟨a', c', rfl, by rw [← HT.out]; exact hown, hst⟩

theorem cell_alloc {w : World} {a : Addr} {v : Value} (h : w.cell? a = some v) (o : Obj) : (w.alloc o).cell? a = some v := ((Kept.refl [] w).alloc o).cell h (by simp)

set_option maxHeartbeats 400000 in
theorem lit_over (a : Option Addr) (c n : Nat) (row : List Nat) (ab : Option Addr) (nb cb : Nat) (bys : List Nat) (w : World) (hl : row.length = n) (hm : n ≤ 1000000) (hs : SlN w .u32 a row) (hr : Lits row)
    (hb : bys.length = nb) (hmb : nb ≤ 1000000) (hsb : SlN w .u32 ab bys) (hrb : Lits bys) (hi : ∀ l ∈ row, l / 2 < nb) (hb0 : bys.head? = some 0) :
    Calls Try.prog 72 #[.slice a n c, .slice ab nb cb] w fun e w' => ∃ a' c', e = .returned (.tuple #[.slice a' n c', .int .i64 0]) ∧ Own w' 41 a' n c' (nats .u32 (row.map (overL bys))) ∧ Stepped w w' [] (ft a') := by
  have hnb : 0 < nb := by cases bys with | nil => simp at hb0 | cons x l => simp at hb; omega
  have h0 : bys[0]'(by omega) = 0 := by cases bys with | nil => simp at hb0 | cons x l => simpa using hb0
  obtain ⟨ad0, hab, hc0⟩ := hsb 0 (by omega)
  subst hab
  rw [h0] at hc0
  have hc0' : ∀ o, (w.alloc o).cell? ad0 = some (.int .u32 0) := fun o => cell_alloc hc0 o
  have hne : ((nb : Int) == 0) = false := by simp; omega
  have HB0 := Lib.hid hb0; clear hb0 h0 hc0
  have HL := Lib.hid hl; clear hl
  have HBL := Lib.hid hb; clear hb
  have HI := Lib.hid hi; clear hi
  have HR := Lib.hid hr; clear hr
  go_enter Try.func72, Try.ntmps72
  go_wp2
  go_loopw [19] (fun i wr => ∃ (k m : Nat), k ≤ n ∧ i = .int .i64 k ∧ wr = (w.alloc (.cells #[.slice (some ad0) nb cb] 37)).drewN m) (fun i _ => n - (intOf i).toNat)
  case atStart => exact ⟨0, 0, Nat.zero_le _, rfl, rfl⟩
  case round =>
    obtain ⟨k, m, hk, rfl, rfl⟩ := hrel
    by_cases hlt : k < n
    · have hkl : k < row.length := by have := HL.out; omega
      obtain ⟨ad, rfl, hc⟩ := hs k hkl
      have hc1 := cell_alloc hc (.cells #[.slice (some ad0) nb cb] 37)
      have hr := HR.out _ (List.getElem_mem hkl)
      have hi := HI.out _ (List.getElem_mem hkl)
      generalize row[k] = b at *
      have hib : ((b / 2 : Nat) : Int) < (nb : Int) := by omega
      go_wp2
      go_quiet (first
        | (go_at_call 25; exact q_same (lit_node _ _ hr))
        | (go_at_call 25; exact q_same2 (lit_node _ _ hr)))
      go_wp2
      go_roundw
      case rel => exact ⟨k + 1, _, by omega, by go_num, rfl⟩
      case measure => simp [intOf]; omega
    · obtain rfl : k = n := by omega
      go_wp2_with (go_at_call 80; refine (lit_each_over a c k row ⟨w.heap.size, 0, none⟩ (some ad0) nb cb bys _ HL.out hm (SlN.drewN (hs.kept0 ((Kept.refl [] w).alloc _)) m) HR.out HBL.out hmb (by simp [World.cell?_alloc_new]) (SlN.drewN (hsb.kept0 ((Kept.refl [] w).alloc _)) m) hrb HI.out).mono ?_; rintro e w' ⟨a', c', rfl, hown, hst⟩)
      go_ret2
      exact ⟨a', c', rfl, hown, (((Stepped.refl w []).alloc _).drewN m).trans hst⟩
end Go.Proofs.Ytdmcdhkkbkgnbaa
