/-
  Package emit: a number's digits: strconv.FormatUint at base 10.
-/
import Derived.Test.YtnjoklcddodfeaaGreatDoorP01
import Derived.Test.YtnjoklcddodfeaaGreatDoorQShelf
import Derived.Lib.ItoaMem
import Derived.Lib.ItoaLen
import Derived.Lib.LaidTab
namespace Go.Proofs.YtnjoklcddodfeaaGreatDoor
open Go.ChangeShapes Go.WideShapes Go.ChangeAt Go.RowKit Go.Sort
set_option linter.unusedVariables false
set_option linter.unusedSimpArgs false

variable {w w' w1 W : World}
/-- the powers of ten as the program's text lays them -/
def PowLaid (w : World) : Prop := Lib.TabIs Tryz.prog w "internal/strconv.uint64pow10" .u64 Lib.pow10Tab
theorem gPow : Tryz.prog.globalNamed "internal/strconv.uint64pow10" = some 3 := by kernel_rfl
theorem PowLaid.kept0 (h : PowLaid w) (hk : Kept [] w w') : PowLaid w' := by
  unfold PowLaid Lib.TabIs at *
  simp only [World.var?, gPow, Option.bind_some] at h ⊢
  split at h
  · rename_i c t fr hb
    rw [hk.heap hb (by simp)]
    exact h
  · cases h
theorem kept_grow (w : World) (os : Array Obj) : Kept [] w (grow w os) := ⟨rfl, rfl, rfl, by simp [grow], fun k hk _ => by simp [grow, Array.getElem?_append_left hk]⟩
theorem holds_zero0 (w : World) (T : TypeId) (nd : Nat) (hs : nd ≤ 20) : Holds (fun (b : UInt8) => Value.int .u8 (b.toNat : Int)) (w.alloc (.cells Lib.zeros24 T)) w.heap.size 0 (Array.replicate nd (0 : UInt8)) := fun j hj => by
  have hj' : j < nd := by simpa using hj
  refine ⟨?_, World.frozen?_alloc_new _ _ _ _⟩
  rw [World.cell?_alloc_new, Lib.zeros24_at _ (by omega), getElem!_pos _ j hj]
  simp
theorem kept_put (w : World) (o : Obj) (dk : Array UInt8) (k : Nat) : Kept [] w ((putRow (fun (b : UInt8) => Value.int .u8 (b.toNat : Int)) (w.alloc o) w.heap.size 0 dk).drewN k) := by
  rw [alloc_eq_grow]
  obtain ⟨os', _, e⟩ := putRow_grow_new (fun (b : UInt8) => Value.int .u8 (b.toNat : Int)) w #[o] w.heap.size 0 dk (Nat.le_refl _)
  rw [e]
  exact (kept_grow w os').drewN k
/-- a number's digits -/
def DigIs (u : Nat) (w : World) (e : Ending) (w' : World) : Prop := e = .returned (.string ⟨(Lib.decDigits u).toArray⟩) ∧ Kept [] w w'
set_option maxHeartbeats 3200000 in
set_option maxRecDepth 100000 in
theorem ifu_c (u : Nat) (hu64 : u < 18446744073709551616) (w : World) (hL : PowLaid w) :
    Calls Tryz.prog 117 #[.int .u64 (u : Int), .int .i64 10] w (DigIs u w) := by
  have HL := Lib.hid hL
  clear hL
  by_cases hs : u < 100
  · go_enter Tryz.func117, Tryz.ntmps117
    go_wp2_with fail
    refine (Tryz.internal_strconv_small u hs _).mono ?_
    rintro e w' ⟨rfl, rfl⟩
    go_wp2_with fail
    go_ret
    exact ⟨rfl, .refl _ _⟩
  · have hu1 : 1 ≤ u := by omega
    have hnd20 : Lib.nDigits u ≤ 20 := Lib.nDigits_le20 u hu64
    have hal : Tryz.prog.arrayLen 209 = 24 := by kernel_rfl
    have hel : Tryz.prog.elem 209 = 5 := by kernel_rfl
    have hsz : ∀ W, (sizeOf 5).run Tryz.prog W = .ok 1 W := fun W => by kernel_rfl
    have hsl1 : ∀ W, (Instr.sliceAt 209 (.pointer (some ⟨w.heap.size, 0, none⟩)) none (some (.int .i64 (Lib.nDigits u : Int))) none).run Tryz.prog W = .ok (.slice (some ⟨w.heap.size, 0, none⟩) (Lib.nDigits u) 24) W := fun W => by
      rw [run_sliceAt_array_h W 209 ⟨w.heap.size, 0, none⟩ (by rw [hal, hel]; exact Tryz.underlying209) .i64 (Lib.nDigits u : Int) (by omega) (by rw [hal]; omega), hel, hal, hsz]
      simp [Result.andThen, slicedAt]
      rfl
    have hH0 := holds_zero0 w 209 (Lib.nDigits u) (by omega)
    have hfmt := Tryz.internal_strconv_formatBase10 w.heap.size 0 24 u (Array.replicate (Lib.nDigits u) 0) (w.alloc (.cells Lib.zeros24 209)) hH0 (by rw [Array.size_replicate]; exact Lib.lt_pow_nDigits u) hu64 (by rw [Array.size_replicate]; omega)
    rw [Array.size_replicate] at hfmt
    have HFMT := Lib.hid hfmt
    have HH0 := Lib.hid hH0
    have HND := Lib.hid (Tryz.internal_strconv_numDigits u hu1 hu64 (w.alloc (.cells Lib.zeros24 209)) (HL.out.kept0 ((Kept.refl [] w).alloc _)))
    clear hH0 hal hel hsz hfmt
    go_enter Tryz.func117, Tryz.ntmps117
    go_wp2_with fail
    refine HND.out.mono ?_
    rintro e w' ⟨rfl, rfl⟩
    go_wp2_with fail
    refine HFMT.out.mono ?_
    rintro e w' ⟨rfl, k, v', dk, rfl, hF⟩
    have hcv : (convert 45 9 (.slice (some ⟨w.heap.size, 0, none⟩) (Lib.nDigits u) 24)).run Tryz.prog ((putRow (fun (b : UInt8) => Value.int .u8 (b.toNat : Int)) (w.alloc (.cells Lib.zeros24 209)) w.heap.size 0 dk).drewN k) = .ok (.string ⟨(Lib.decDigits u).toArray⟩) ((putRow (fun (b : UInt8) => Value.int .u8 (b.toNat : Int)) (w.alloc (.cells Lib.zeros24 209)) w.heap.size 0 dk).drewN k) := by
      have h := run_convert_bytes_back (P := Tryz.prog) ((putRow (fun (b : UInt8) => Value.int .u8 (b.toNat : Int)) (w.alloc (.cells Lib.zeros24 209)) w.heap.size 0 dk).drewN k) 45 9 5 ⟨w.heap.size, 0, none⟩ 24 (Lib.decDigits u) Tryz.underlying45 Tryz.underlying5 Tryz.underlying9 (fun j hj => by
        rw [Lib.row_is_numeral hF j hj, Lib.add_plain, World.cell?_drewN]
        exact cell?_putRow (fun (b : UInt8) => Value.int .u8 (b.toNat : Int)) _ w.heap.size 0 _ dk HH0.out (by rw [hF.size, Array.size_replicate]) j (by rw [hF.size]; rw [Lib.decDigits_length] at hj; exact hj))
      rw [Lib.decDigits_length] at h
      exact h
    have HK := Lib.hid (kept_put w (.cells Lib.zeros24 209) dk k)
    clear hF
    obtain ⟨wz, hwz⟩ : ∃ V, V = (putRow (fun (b : UInt8) => Value.int .u8 (b.toNat : Int)) (w.alloc (.cells Lib.zeros24 209)) w.heap.size 0 dk).drewN k := ⟨_, rfl⟩
    rw [← hwz] at hcv HK ⊢
    clear hwz
    go_wp2_with fail
    go_ret
    exact ⟨rfl, HK.out⟩
theorem fu_c (u : Nat) (hu64 : u < 18446744073709551616) (w : World) (hL : PowLaid w) :
    Calls Tryz.prog 90 #[.int .u64 (u : Int), .int .i64 10] w (DigIs u w) := by
  have H := Lib.hid (ifu_c u hu64 w hL)
  clear hL
  go_enter Tryz.func90, Tryz.ntmps90
  go_wp2_with fail
  refine H.out.mono ?_
  rintro e w' ⟨rfl, k1⟩
  go_wp2_with fail
  go_ret
  exact ⟨rfl, k1⟩
end Go.Proofs.YtnjoklcddodfeaaGreatDoor
