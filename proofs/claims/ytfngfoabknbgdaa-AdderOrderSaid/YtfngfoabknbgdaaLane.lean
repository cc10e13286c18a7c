/-
  Laws 12 and 14: a lane's number of a row of words.
-/
import Derived.Test.YtfngfoabknbgdaaWords
import Derived.Test.YtfngfoabknbgdaaCmpVal
namespace Go.Proofs.Ytfngfoabknbgdaa
open Go.ChangeShapes Go.WideShapes Go.ChangeAt Go.RowKit
open Go.Maps (Keyed)
open Go.WideMaps
set_option linter.unusedVariables false

/-- a lane's number of a row of words -/
def laneN (row : List Nat) (t : Nat) : Nat := bitN (fun i => (row.getD i 0).testBit t) 0 row.length
theorem laneN_lt (row : List Nat) (t : Nat) : laneN row t < 2 ^ row.length := bitN_lt _ _ _
/-- as a signed one -/
def laneI (row : List Nat) (t : Nat) : Int := if laneN row t < 2 ^ (row.length - 1) then (laneN row t : Int) else (laneN row t : Int) - 2 ^ row.length
theorem bit_spell (x t : Nat) (hx : x < 18446744073709551616) : bits .and .u64 ((x : Int) / 2 ^ t) 1 = (((x.testBit t).toNat : Nat) : Int) := by
  have e : (x : Int) / 2 ^ t = ((x / 2 ^ t : Nat) : Int) := by push_cast; rfl
  rw [e, bits_and1w _ (Nat.lt_of_le_of_lt (Nat.div_le_self _ _) hx), Nat.testBit_eq_decide_div_mod_eq]
  have := Nat.mod_two_eq_zero_or_one (x / 2 ^ t)
  rcases this with h | h <;> simp [h]
theorem toNat_le1 (b : Bool) : b.toNat ≤ 1 := by cases b <;> simp
def LanePost (row : List Nat) (t : Nat) (w : World) (e : Ending) (w' : World) : Prop := e = .returned (.tuple #[.int .u64 (laneN row t : Nat), .int .i64 (laneI row t)]) ∧ ∃ k, w' = w.drewN k
theorem sgn_spell (row : List Nat) (t : Nat) (h1 : 1 ≤ row.length) (hn : row.length ≤ 64) : wrap64 (IntKind.u64.wrap ((laneN row t : Int) * 2 ^ (64 - row.length))) / 2 ^ (64 - row.length) = laneI row t := by
  have hv := laneN_lt row t
  unfold laneI
  generalize laneN row t = v at *
  generalize row.length = k at *
  have e1 : (2 : Nat) ^ 64 = 2 ^ k * 2 ^ (64 - k) := by rw [← Nat.pow_add]; congr 1; omega
  have e2 : (2 : Nat) ^ 63 = 2 ^ (k - 1) * 2 ^ (64 - k) := by rw [← Nat.pow_add]; congr 1; omega
  have hM : 0 < 2 ^ (64 - k) := Nat.pow_pos (by omega)
  have hx : v * 2 ^ (64 - k) < 2 ^ k * 2 ^ (64 - k) := Nat.mul_lt_mul_of_pos_right hv hM
  have hc : (v : Int) * 2 ^ (64 - k) = ((v * 2 ^ (64 - k) : Nat) : Int) := by push_cast; rfl
  have hd : ((2 : Int) ^ (64 - k)) = ((2 ^ (64 - k) : Nat) : Int) := by push_cast; rfl
  have hkk : ((2 : Int) ^ k) = ((2 ^ k : Nat) : Int) := by push_cast; rfl
  rw [hc, hd, hkk]
  have hu : IntKind.u64.wrap ((v * 2 ^ (64 - k) : Nat) : Int) = ((v * 2 ^ (64 - k) : Nat) : Int) := by
    rw [IntKind.wrap_u64]
    generalize v * 2 ^ (64 - k) = X at *
    omega
  rw [hu]
  by_cases h : v < 2 ^ (k - 1)
  · rw [if_pos h]
    have h2 : v * 2 ^ (64 - k) < 2 ^ (k - 1) * 2 ^ (64 - k) := Nat.mul_lt_mul_of_pos_right h hM
    have hw : wrap64 ((v * 2 ^ (64 - k) : Nat) : Int) = ((v * 2 ^ (64 - k) : Nat) : Int) := by
      generalize v * 2 ^ (64 - k) = X at *
      rw [← e2] at h2
      exact IntWalk.wrap64_in _ ⟨by omega, by omega⟩
    rw [hw]
    push_cast
    exact Int.mul_ediv_cancel _ (by have : ((2 ^ (64 - k) : Nat) : Int) ≠ 0 := by omega
                                    push_cast at this; exact this)
  · rw [if_neg h]
    have h2 : 2 ^ (k - 1) * 2 ^ (64 - k) ≤ v * 2 ^ (64 - k) := Nat.mul_le_mul_right _ (by omega)
    have hw : wrap64 ((v * 2 ^ (64 - k) : Nat) : Int) = ((v : Int) - ((2 ^ k : Nat) : Int)) * ((2 ^ (64 - k) : Nat) : Int) := by
      have e3 : ((2 ^ k : Nat) : Int) * ((2 ^ (64 - k) : Nat) : Int) = 18446744073709551616 := by
        rw [← Int.natCast_mul, ← e1]; rfl
      rw [Int.sub_mul, e3, ← Int.natCast_mul]
      generalize v * 2 ^ (64 - k) = X at *
      rw [← e2] at h2
      rw [← e1] at hx
      unfold wrap64
      omega
    rw [hw]
    exact Int.mul_ediv_cancel _ (by omega)
set_option maxHeartbeats 800000 in
theorem lane14 (a : Option Addr) (c n t : Nat) (sg : Bool) (row : List Nat) (w : World) (hl : row.length = n) (h1 : 1 ≤ n) (hn : n ≤ 64) (ht : t < 64) (hs : SlN w .u64 a row) (hw : Words row) :
    Calls Try.prog 29 #[.slice a n c, .int .i64 t, .bool sg] w (LanePost row t w) := by
  have HL := Lib.hid hl
  have HW := Lib.hid hw
  clear hl hw
  go_enter Try.func29, Try.ntmps29
  go_wp2_with fail
  go_loop [8, 9] (fun v i => ∃ (k : Nat), k ≤ n ∧ i = .int .i64 k ∧ v = .int .u64 ((bitN (fun i => (row.getD i 0).testBit t) 0 k : Nat) : Int)) (fun _ i => n - (intOf i).toNat)
  case atStart => exact ⟨0, Nat.zero_le _, rfl, rfl⟩
  case round =>
    obtain ⟨k, hk, rfl, rfl⟩ := hrel
    by_cases hlt : k < n
    · obtain ⟨ad, rfl, hc⟩ := hs.getD (k := k) (by rw [HL.out]; exact hlt)
      have hx : row.getD k 0 < 18446744073709551616 := words_getD HW.out k
      have HS := Lib.hid (num_spell _ _ k (bitN_lt (fun i => (row.getD i 0).testBit t) 0 k) (toNat_le1 ((row.getD k 0).testBit t)) (by omega))
      have HB := Lib.hid (bit_spell (row.getD k 0) t hx)
      have HE := Lib.hid (show bitN (fun i => (row.getD i 0).testBit t) 0 (k + 1) = bitN (fun i => (row.getD i 0).testBit t) 0 k + ((row.getD k 0).testBit t).toNat * 2 ^ k from by show _ + ((row.getD (0 + k) 0).testBit t).toNat * 2 ^ k = _; rw [Nat.zero_add])
      generalize bitN (fun i => (row.getD i 0).testBit t) 0 k = v at *
      generalize row.getD k 0 = x at *
      go_wp2_with fail
      rw [HB.out, HS.out]
      go_round
      case rel => exact ⟨k + 1, by omega, by go_num, by rw [HE.out]⟩
      case measure => simp [intOf]; omega
    · obtain rfl : k = n := by omega
      have HV := Lib.hid (show bitN (fun i => (row.getD i 0).testBit t) 0 k = laneN row t from by unfold laneN; rw [HL.out])
      rw [HV.out]
      have HI := Lib.hid (sgn_spell row t (by rw [HL.out]; exact h1) (by rw [HL.out]; exact hn))
      rw [HL.out] at HI
      obtain ⟨v, hv⟩ : ∃ v, v = laneN row t := ⟨_, rfl⟩
      rw [← hv] at HI ⊢
      have HV2 := Lib.hid hv.symm
      clear hv
      go_wp2_with fail
      go_quiet (fail)
      go_wp2_with fail
      go_ret2
      exact ⟨by rw [HI.out, HV2.out]; rfl, _, rfl⟩
set_option maxHeartbeats 800000 in
theorem lane12 (a : Option Addr) (c n t : Nat) (row : List Nat) (w : World) (hl : row.length = n) (hn : n ≤ 64) (ht : t < 64) (hs : SlN w .u64 a row) (hw : Words row) :
    Calls Try.prog 35 #[.slice a n c, .int .i64 t] w fun e w' => e = .returned (.int .u64 (laneN row t : Nat)) ∧ w = w' := by
  have HL := Lib.hid hl
  have HW := Lib.hid hw
  clear hl hw
  go_enter Try.func35, Try.ntmps35
  go_wp2_with fail
  go_loop [5, 6] (fun v i => ∃ (k : Nat), k ≤ n ∧ i = .int .i64 k ∧ v = .int .u64 ((bitN (fun i => (row.getD i 0).testBit t) 0 k : Nat) : Int)) (fun _ i => n - (intOf i).toNat)
  case atStart => exact ⟨0, Nat.zero_le _, rfl, rfl⟩
  case round =>
    obtain ⟨k, hk, rfl, rfl⟩ := hrel
    by_cases hlt : k < n
    · obtain ⟨ad, rfl, hc⟩ := hs.getD (k := k) (by rw [HL.out]; exact hlt)
      have hx : row.getD k 0 < 18446744073709551616 := words_getD HW.out k
      have HS := Lib.hid (num_spell _ _ k (bitN_lt (fun i => (row.getD i 0).testBit t) 0 k) (toNat_le1 ((row.getD k 0).testBit t)) (by omega))
      have HB := Lib.hid (bit_spell (row.getD k 0) t hx)
      have HE := Lib.hid (show bitN (fun i => (row.getD i 0).testBit t) 0 (k + 1) = bitN (fun i => (row.getD i 0).testBit t) 0 k + ((row.getD k 0).testBit t).toNat * 2 ^ k from by show _ + ((row.getD (0 + k) 0).testBit t).toNat * 2 ^ k = _; rw [Nat.zero_add])
      generalize bitN (fun i => (row.getD i 0).testBit t) 0 k = v at *
      generalize row.getD k 0 = x at *
      go_wp2_with fail
      rw [HB.out, HS.out]
      go_round
      case rel => exact ⟨k + 1, by omega, by go_num, by rw [HE.out]⟩
      case measure => simp [intOf]; omega
    · obtain rfl : k = n := by omega
      have HV := Lib.hid (show bitN (fun i => (row.getD i 0).testBit t) 0 k = laneN row t from by unfold laneN; rw [HL.out])
      rw [HV.out]
      go_wp2_with fail
      go_ret
      exact ⟨rfl, rfl⟩
end Go.Proofs.Ytfngfoabknbgdaa
