/-
  Law 15's document: a number's bits, a number of bits, a type's word.
-/
import Derived.Test.YtjnjldbegngooaaDoorTokRc
namespace Go.Proofs.YtjnjldbegngooaaDoor
open Go.ChangeShapes Go.WideShapes Go.ChangeAt Go.RowKit
set_option linter.unusedVariables false
set_option linter.unusedSimpArgs false

variable {w w' w1 W : World}
theorem intR_info : (Tryd.prog.info? 3).map (fun i => (i.zero, i.size, i.bytes)) = some (some (.int .i64 0), 1, 8) := by kernel_rfl
/-- the bits below i, none from it on -/
def bitsL (v i m : Nat) : List Value := (List.range m).map fun j => .int .i64 (((if j < i then v / 2 ^ j % 2 else 0) : Nat) : Int)
theorem bitsL_zero (v m : Nat) : List.replicate m (Value.int .i64 0) = bitsL v 0 m := by
  unfold bitsL
  simp [List.map_const']
theorem bitsL_getE (v i m j : Nat) (h : j < (bitsL v i m).length) : (bitsL v i m)[j]'h = .int .i64 (((if j < i then v / 2 ^ j % 2 else 0) : Nat) : Int) := by
  simp only [bitsL, List.getElem_map, List.getElem_range]
theorem bitsL_at (v i m : Nat) (h : i < m) : ((bitsL v i m).toArray.setIfInBounds i (.int .i64 ((v / 2 ^ i % 2 : Nat) : Int))) = (bitsL v (i + 1) m).toArray := by
  rw [List.setIfInBounds_toArray]
  congr 1
  apply List.ext_getElem
  · simp [bitsL]
  · intro j h1 h2
    rw [List.getElem_set, bitsL_getE]
    by_cases hj : i = j
    · subst hj
      rw [if_pos rfl, bitsL_getE, if_pos (by omega)]
    · rw [if_neg hj, bitsL_getE]
      by_cases h3 : j < i
      · rw [if_pos h3, if_pos (by omega)]
      · rw [if_neg h3, if_neg (by omega)]
theorem bitsL_get (v m j : Nat) (h : j < m) : (bitsL v m m).toArray[j]? = some (.int .i64 ((v / 2 ^ j % 2 : Nat) : Int)) := by
  simp [bitsL, h]
def BitsPost (v m : Nat) (w : World) (e : Ending) (w' : World) : Prop := e = .returned (.slice (some ⟨w.heap.size, 0, none⟩) m m) ∧ w'.heap[w.heap.size]? = some (.cells (bitsL v m m).toArray 3 (0, 0)) ∧ Kept [] w w'
theorem make_bits (v m : Nat) (hm : m ≤ 64) (w : World) : ∃ W', (Instr.makeSlice 87 (.int .i64 (m : Int)) (.int .i64 (m : Int))).run Tryd.prog w = .ok (.slice (some ⟨w.heap.size, 0, none⟩) m m) W' ∧ W'.heap[w.heap.size]? = some (.cells (bitsL v 0 m).toArray 3 (0, 0)) ∧ Kept [] w W' := by
  obtain ⟨i, hi, hiz, hisz, hib⟩ := info3 intR_info
  have h := run_makeSlice (P := Tryd.prog) w 87 3 i (.int .i64 0) Tryd.underlying87 hi hiz .i64 .i64 m m (by omega) (by omega) (by rw [hisz]; omega) (by rw [hib]; omega) (by omega)
  have e : (.cells (madeCells (Value.int .i64 0).cells ((m : Int).toNat * i.size)) 3 : Obj) = .cells (bitsL v 0 m).toArray 3 (0, 0) := by
    rw [hisz, Int.toNat_natCast, Nat.mul_one, ← bitsL_zero]
    simp [madeCells, Value.cells, Nat.mod_one]
    apply Array.ext'
    simp [List.map_const']
  rw [e] at h
  exact ⟨_, h, heap_alloc_new w _, (Kept.refl [] w).alloc _⟩
set_option maxHeartbeats 800000 in
theorem rbits_c (v m : Nat) (hv : v < 18446744073709551616) (hm : m ≤ 64) (w : World) : Calls Tryd.prog 51 #[.int .u64 (v : Int), .int .i64 (m : Int)] w (BitsPost v m w) := by
  obtain ⟨W0, hmk, hw0, k0⟩ := make_bits v m hm w
  have HW0 := Lib.hid hw0
  have K0 := Lib.hid k0
  clear hw0 k0
  obtain ⟨g, hgq⟩ : ∃ g, g = w.heap.size := ⟨_, rfl⟩
  have HGQ := Lib.hid hgq
  rw [← hgq] at HW0 hmk
  unfold BitsPost
  rw [← hgq]
  clear hgq
  go_enter Tryd.func51, Tryd.ntmps51
  go_wp2_with fail
  go_loopw [0, 6] (fun nv iv wr => ∃ i : Nat, i ≤ m ∧ iv = .int .i64 i ∧ nv = .int .u64 ((v / 2 ^ i : Nat) : Int) ∧ wr.heap[g]? = some (.cells (bitsL v i m).toArray 3 (0, 0)) ∧ Kept [] w wr) (fun _ iv _ => m - (intOf iv).toNat)
  case atStart => exact ⟨0, by omega, rfl, by simp, HW0.out, K0.out⟩
  case round =>
    obtain ⟨i, hi, rfl, rfl, hb, kr⟩ := hrel
    have HB := Lib.hid hb
    have KR := Lib.hid kr
    clear hb kr
    obtain ⟨x, hx⟩ : ∃ x, x = v / 2 ^ i := ⟨_, rfl⟩
    have HX := Lib.hid hx
    have hxl : x < 18446744073709551616 := by rw [hx]; exact Nat.lt_of_le_of_lt (Nat.div_le_self _ _) hv
    rw [← hx]
    clear hx
    by_cases hlt : i < m
    · have c0 : wr.cell? ⟨g, i, none⟩ = some (.int .i64 0) := by
        rw [blk_cell HB.out]
        have h1 : i < (bitsL v i m).length := by simpa [bitsL] using hlt
        rw [List.getElem?_toArray, List.getElem?_eq_getElem h1, bitsL_getE, if_neg (by omega)]
        rfl
      have f0 : wr.frozen? ⟨g, i, none⟩ = false := blk_free HB.out i
      go_wp2_with fail
      go_roundw
      case rel => exact ⟨i + 1, by omega, by go_num, by
        rw [Nat.pow_succ, ← Nat.div_div_eq_div_mul, ← HX.out]
        go_num, by
        have h1 := blk_set HB.out i (.int .i64 ((v / 2 ^ i % 2 : Nat) : Int))
        rw [bitsL_at v i m hlt, ← HX.out] at h1
        exact h1, KR.out.setCell (.inr (by simp [HGQ.out])) _⟩
      case measure => simp [intOf]; omega
    · obtain rfl : i = m := by omega
      go_wp2_with fail
      go_ret
      exact ⟨rfl, HB.out, KR.out⟩
/-! a number of bits -/
theorem num_step (V k : Nat) : 2 * (V / 2 ^ (k + 1)) + V / 2 ^ k % 2 = V / 2 ^ k := by
  rw [Nat.pow_succ, ← Nat.div_div_eq_div_mul]
  omega
theorem mod_bit (v m k : Nat) (h : k < m) : v % 2 ^ m / 2 ^ k % 2 = v / 2 ^ k % 2 := by
  have h1 := Nat.testBit_mod_two_pow v m k
  rw [Nat.testBit_eq_decide_div_mod_eq, Nat.testBit_eq_decide_div_mod_eq, decide_eq_true h, Bool.true_and] at h1
  rw [decide_eq_decide] at h1
  omega
set_option maxHeartbeats 800000 in
set_option maxRecDepth 100000 in
theorem rnumber_c (v m c b : Nat) (hv : v < 18446744073709551616) (hm : m ≤ 64) (w : World) (hc : ∀ j, j < m → w.cell? ⟨b, j, none⟩ = some (.int .i64 ((v / 2 ^ j % 2 : Nat) : Int))) :
    Calls Tryd.prog 65 #[.slice (some ⟨b, 0, none⟩) m c] w fun e w' => e = .returned (.int .u64 ((v % 2 ^ m : Nat) : Int)) ∧ w' = w := by
  have HC := Lib.hid hc
  clear hc
  obtain ⟨V, hV⟩ : ∃ V, V = v % 2 ^ m := ⟨_, rfl⟩
  have hVl : V < 18446744073709551616 := by rw [hV]; exact Nat.lt_of_le_of_lt (Nat.mod_le _ _) hv
  have HV0 := Lib.hid (show V / 2 ^ m = 0 from by rw [hV]; exact Nat.div_eq_of_lt (Nat.mod_lt _ (Nat.two_pow_pos m)))
  have HBT := Lib.hid (fun k (h : k < m) => (show v / 2 ^ k % 2 = V / 2 ^ k % 2 from by rw [hV, mod_bit v m k h]))
  rw [← hV]
  clear hV
  go_enter Tryd.func65, Tryd.ntmps65
  go_wp2_with fail
  go_loopw [3, 4] (fun nv iv wr => ∃ (k : Nat) (z : Int), k ≤ m ∧ z = (k : Int) - 1 ∧ iv = .int .i64 z ∧ nv = .int .u64 ((V / 2 ^ k : Nat) : Int) ∧ wr = w) (fun _ iv _ => ((match iv with | .int _ z => z | _ => 0) + 1).toNat)
  case atStart => exact ⟨m, (m : Int) - 1, by omega, rfl, by go_num, by rw [HV0.out]; rfl, rfl⟩
  case round =>
    obtain ⟨k, z, hk, hz, rfl, rfl, rfl⟩ := hrel
    cases k with
    | zero =>
      have hz2 : z < 0 := by omega
      have HX := Lib.hid (show V / 2 ^ 0 = V from by simp)
      rw [HX.out]
      clear hz
      go_wp2_with fail
      go_ret
      exact ⟨rfl, rfl⟩
    | succ k =>
      obtain rfl : z = (k : Int) := by omega
      clear hz
      have hk2 : k < m := by omega
      obtain ⟨n, hn⟩ : ∃ n, n = V / 2 ^ (k + 1) := ⟨_, rfl⟩
      obtain ⟨b1, hb1⟩ : ∃ b1, b1 = V / 2 ^ k % 2 := ⟨_, rfl⟩
      have hst := num_step V k
      have hle := Nat.div_le_self V (2 ^ k)
      have c0 := HC.out k (by omega)
      rw [HBT.out k (by omega), ← hb1] at c0
      rw [← hn, ← hb1] at hst
      have h2 : 2 * n + b1 < 18446744073709551616 := by omega
      have h3 : b1 < 2 := by rw [hb1]; exact Nat.mod_lt _ (by omega)
      have HST := Lib.hid hst
      rw [← hn]
      clear hst hle hn hb1
      go_wp2_with fail
      go_roundw
      case rel => exact ⟨k, (k : Int) - 1, by omega, rfl, by go_num, by rw [← HST.out]; go_num, trivial⟩
      case measure => simp
theorem BitsAt {v m b : Nat} (h : w.heap[b]? = some (.cells (bitsL v m m).toArray 3 (0, 0))) (j : Nat) (hj : j < m) : w.cell? ⟨b, j, none⟩ = some (.int .i64 ((v / 2 ^ j % 2 : Nat) : Int)) := by
  rw [blk_cell h, bitsL_get v m j hj]
set_option maxHeartbeats 800000 in
set_option maxRecDepth 100000 in
theorem ris_c (sg : Bool) (m v : Nat) (h1 : 1 ≤ m) (h2 : m ≤ 64) (hv : v < 18446744073709551616) (w : World) :
    Calls Tryd.prog 52 #[tyV ⟨false, sg, (m : Int)⟩, .int .u64 (v : Int)] w (BoolIs (decide (v < 2 ^ m)) w) := by
  have HM := Lib.hid (fun W => may01_c ⟨false, sg, (m : Int)⟩ W)
  rw [may_numT h1 h2] at HM
  have HB := Lib.hid (fun W => rbits_c v m hv h2 W)
  have HN := Lib.hid (fun b W h => rnumber_c v m m b hv h2 W h)
  obtain ⟨x, hx⟩ : ∃ x, x = v % 2 ^ m := ⟨_, rfl⟩
  rw [← hx] at HN
  have HX := Lib.hid (show (decide (v < 2 ^ m)) = decide ((x : Int) = (v : Int)) from by
    rw [decide_eq_decide, hx]
    constructor
    · intro h; rw [Nat.mod_eq_of_lt h]
    · intro h
      have h3 : v % 2 ^ m = v := by omega
      have := Nat.mod_lt v (Nat.two_pow_pos m)
      omega)
  clear hx
  simp only [tyV] at HM ⊢
  go_enter Tryd.func52, Tryd.ntmps52
  go_wp2_with fail
  refine (HM.out _).mono ?_
  rintro e w1 ⟨rfl, k1⟩
  have hb1 := k1.heap (heap_alloc_new w _) (by simp)
  have c0 := blk_cell hb1 2
  simp only [List.getElem?_toArray, List.getElem?_cons_zero, List.getElem?_cons_succ] at c0
  have K1 := Lib.hid (((Kept.refl [] w).alloc _).trans k1)
  clear k1 hb1
  go_wp2_with fail
  refine (HB.out _).mono ?_
  rintro e w2 ⟨rfl, hb2, k2⟩
  have HA := Lib.hid (fun j hj => BitsAt hb2 j hj)
  have K2 := Lib.hid (K1.out.trans k2)
  clear k2 hb2
  obtain ⟨g, hg⟩ : ∃ g, g = w1.heap.size := ⟨_, rfl⟩
  rw [← hg] at HA ⊢
  clear hg
  go_wp2_with fail
  refine (HN.out g w2 HA.out).mono ?_
  rintro e w3 ⟨rfl, rfl⟩
  go_wp2_with fail
  go_ret
  exact ⟨by rw [HX.out]; rfl, K2.out⟩
end Go.Proofs.YtjnjldbegngooaaDoor
