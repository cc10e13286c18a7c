/-
  Law 09's document: a number's digits.
-/
import Derived.Test.YtjgcfncganleoaaDoorRtD
namespace Go.Proofs.YtjgcfncganleoaaDoor
open Go.ChangeShapes Go.WideShapes Go.ChangeAt Go.RowKit
set_option linter.unusedVariables false
set_option linter.unusedSimpArgs false

variable {w w' w1 W : World}
def rdg (d : Nat) : UInt8 := if d < 10 then UInt8.ofNat (48 + d) else UInt8.ofNat (87 + d)
def digB (b u : Nat) : List UInt8 :=
  if h : b < 2 ∨ u < b then [rdg u] else digB b (u / b) ++ [rdg (u % b)]
termination_by u
decreasing_by exact Nat.div_lt_self (by omega) (by omega)
theorem digB_small {b u : Nat} (h : u < b) : digB b u = [rdg u] := by rw [digB, dif_pos (.inr h)]
theorem digB_big {b u : Nat} (hb : 2 ≤ b) (h : ¬ u < b) : digB b u = digB b (u / b) ++ [rdg (u % b)] := by rw [digB, dif_neg (by omega)]
def digs16 : ByteArray := ⟨#[48, 49, 50, 51, 52, 53, 54, 55, 56, 57, 97, 98, 99, 100, 101, 102]⟩
theorem digs16_get (d : Nat) (h : d < 16) (h2 : d < digs16.size) : digs16[d] = rdg d := by
  have : ∀ i : Fin 16, digs16[i.1]! = rdg i.1 := by decide +kernel
  have h3 := this ⟨d, h⟩
  simp only [getElem!_pos digs16 d h2] at h3
  exact h3
theorem str_one (x : UInt8) (T : List UInt8) : (⟨#[x]⟩ : ByteArray) ++ (⟨T.toArray⟩ : ByteArray) = ⟨(x :: T).toArray⟩ := by
  apply ByteArray.ext
  simp [ByteArray.data_append]
set_option maxHeartbeats 1600000 in
set_option maxRecDepth 100000 in
theorem rdigits_c (b u : Nat) (hb : 2 ≤ b) (hb16 : b ≤ 16) (hu : u < 18446744073709551616) (w : World) :
    Calls Tryd.prog 45 #[.int .u64 (u : Int), .int .u64 (b : Int)] w fun e w' => e = .returned (.string ⟨(digB b u).toArray⟩) ∧ Kept [] w w' := by
  go_enter Tryd.func45, Tryd.ntmps45
  go_wp2_with fail
  go_loopw [0, 5] (fun n s wr => ∃ (v : Nat) (T : List UInt8), n = .int .u64 (v : Int) ∧ s = .string ⟨T.toArray⟩ ∧ digB b u = digB b v ++ T ∧ v * 2 ^ T.length ≤ u ∧ (1 ≤ v ∨ T = []) ∧ Kept [] w wr) (fun n _ _ => (intOf n).toNat)
  case atStart => exact ⟨u, [], rfl, rfl, by simp, by simp, .inr rfl, .refl _ _⟩
  case round =>
    obtain ⟨v, T, rfl, rfl, hdg, hle, h1, hkr⟩ := hrel
    have HD := Lib.hid hdg
    have HLE := Lib.hid hle
    have KR := Lib.hid hkr
    have hv : v ≤ u := Nat.le_trans (Nat.le_mul_of_pos_right _ (Nat.pow_pos (by omega))) hle
    have hlen : T.length ≤ 64 := by
      rcases h1 with h1 | rfl
      · refine Nat.le_of_not_lt fun h => ?_
        have h2 : 2 ^ 64 ≤ 2 ^ T.length := Nat.pow_le_pow_right (by omega) (by omega)
        have h3 : 1 * 2 ^ T.length ≤ v * 2 ^ T.length := Nat.mul_le_mul_right _ h1
        have h4 : (2 : Nat) ^ 64 = 18446744073709551616 := by decide
        omega
      · simp
    clear hdg hle hkr h1
    obtain ⟨d, hd⟩ : ∃ d, d = v % b := ⟨_, rfl⟩
    have hdb : d < b := hd ▸ Nat.mod_lt _ (by omega)
    have hd16 : v % b < digs16.size := by show _ < 16; omega
    have HX := Lib.hid (show digs16[v % b]'hd16 = rdg (v % b) from digs16_get _ (by omega) hd16)
    have hcv : ∀ z : UInt8, (convert 44 9 (.slice (some ⟨wr.heap.size, 0, none⟩) 1 1)).run Tryd.prog (wr.alloc (.cells #[.int .u8 (z.toNat : Int)] 5)) = .ok (.string ⟨#[z]⟩) (wr.alloc (.cells #[.int .u8 (z.toNat : Int)] 5)) := fun z => 
      run_convert_bytes_back (P := Tryd.prog) _ 44 9 5 ⟨wr.heap.size, 0, none⟩ 1 [z] Tryd.underlying44 Tryd.underlying5 Tryd.underlying9 (fun j hj => by
        obtain rfl : j = 0 := by simpa using hj
        rw [add_at, blk_cell (heap_alloc_new wr _) 0]
        rfl)
    have hsum : ∀ z : UInt8, (⟨#[z]⟩ : ByteArray).size + (⟨T.toArray⟩ : ByteArray).size ≤ 9223372036854775807 := fun z => by
      show 1 + T.toArray.size ≤ _
      simp; omega
    have hadd := fun (P : Program) (W : World) (z : UInt8) => run_string_add_sum (P := P) (w := W) ⟨#[z]⟩ ⟨T.toArray⟩ (hsum z)
    simp only [str_one] at hadd
    have HQ := Lib.hid (show v < b → digB b u = rdg (v % b) :: T from fun h => by rw [HD.out, digB_small h, Nat.mod_eq_of_lt h]; rfl)
    have HG := Lib.hid (show ¬ v < b → digB b u = digB b (v / b) ++ (rdg (v % b) :: T) ∧ v / b * 2 ^ (rdg (v % b) :: T).length ≤ u ∧ v / b < v from fun h => by
      refine ⟨by rw [HD.out, digB_big hb h, List.append_assoc]; rfl, ?_, Nat.div_lt_self (by omega) (by omega)⟩
      have h2 : v / b * 2 ≤ v := Nat.le_trans (Nat.mul_le_mul_left _ hb) (Nat.div_mul_le_self v b)
      calc v / b * 2 ^ (rdg (v % b) :: T).length = (v / b * 2) * 2 ^ T.length := by rw [List.length_cons, Nat.pow_succ, Nat.mul_assoc, Nat.mul_comm (2 ^ T.length) 2]
        _ ≤ v * 2 ^ T.length := Nat.mul_le_mul_right _ h2
        _ ≤ u := HLE.out)
    have hm0 : 0 ≤ (v : Int) % (b : Int) := Int.emod_nonneg _ (by omega)
    have hm1 : (v : Int) % (b : Int) < 16 := by
      rw [← Int.natCast_emod]; omega
    have hqb : (v : Int) / (b : Int) ≤ 18446744073709551615 := by
      rw [← Int.natCast_ediv]
      have := Nat.div_le_self v b
      omega
    have hq1 : 0 ≤ (v : Int) / (b : Int) := by rw [← Int.natCast_ediv]; exact Int.natCast_nonneg _
    have hwr : IntKind.u64.wrap ((v : Int) / (b : Int)) = (v : Int) / (b : Int) := IntWalk.u64_in _ ⟨hq1, hqb⟩
    clear hd hdb hsum hqb hq1
    by_cases hlt : v < b
    · have hq0 : ((v : Int) / (b : Int) == 0) = true := by
        rw [beq_iff_eq, ← Int.natCast_ediv, Nat.div_eq_of_lt hlt]; rfl
      have HR := Lib.hid (HQ.out hlt)
      go_wp2_with fail
      go_ret
      exact ⟨by rw [HR.out]; exact congrArg (fun z => Ending.returned (Value.string ⟨(z :: T).toArray⟩)) HX.out, KR.out.trans ((Kept.refl [] wr).alloc _)⟩
    · have hq0 : ((v : Int) / (b : Int) == 0) = false := by
        rw [beq_eq_false_iff_ne, ← Int.natCast_ediv]
        have : 0 < v / b := Nat.div_pos (by omega) (by omega)
        omega
      have HR := Lib.hid (HG.out hlt)
      have HV := Lib.hid (show 1 ≤ v / b from Nat.div_pos (by omega) (by omega))
      have HI := Lib.hid (Int.natCast_ediv v b)
      go_wp2_with fail
      go_roundw
      case rel => exact ⟨v / b, rdg (v % b) :: T, by rw [HI.out], congrArg (fun z => Value.string ⟨(z :: T).toArray⟩) HX.out, HR.out.1, HR.out.2.1, .inl HV.out, KR.out.trans ((Kept.refl [] wr).alloc _)⟩
      case measure =>
        have := HR.out.2.2
        simp only [intOf, ← HI.out]
        omega
end Go.Proofs.YtjgcfncganleoaaDoor
