/-
  Law 15's document: types and their texts; reserved words.
-/
import Derived.Test.YtjnjldbegngooaaDoorTokU
namespace Go.Proofs.YtjnjldbegngooaaDoor
open Go.ChangeShapes Go.WideShapes Go.ChangeAt Go.RowKit
set_option linter.unusedVariables false
set_option linter.unusedSimpArgs false

variable {w w' w1 W : World}
theorem may01_c (t : Ty) (w : World) : Calls Tryd.prog 33 #[tyV t] w (BoolIs (mayTy t) w) := by
  obtain ⟨b, sg, x⟩ := t
  show Calls _ _ #[.agg #[.bool b, .bool sg, .int .i64 x]] _ _
  go_enter Tryd.func33, Tryd.ntmps33
  cases b with
  | true =>
    cases sg with
    | true =>
      go_wp2_with fail
      go_ret
      exact ⟨by simp [mayTy], (Kept.refl [] w).alloc _⟩
    | false =>
      by_cases h : x = 1
      · subst h
        go_wp2_with fail
        go_ret
        exact ⟨by simp [mayTy], (Kept.refl [] w).alloc _⟩
      · have e1 : (x == 1) = false := by simpa using h
        go_wp2_with fail
        go_ret
        exact ⟨by simp [mayTy, h], (Kept.refl [] w).alloc _⟩
  | false =>
    by_cases h1 : 1 ≤ x
    · go_wp2_with fail
      go_ret
      exact ⟨by simp [mayTy, h1], (Kept.refl [] w).alloc _⟩
    · go_wp2_with fail
      go_ret
      exact ⟨by simp [mayTy]; omega, (Kept.refl [] w).alloc _⟩
theorem str_oneT (z : UInt8) (l : List UInt8) : (⟨l.toArray⟩ : ByteArray) ++ ⟨#[z]⟩ = ⟨(l ++ [z]).toArray⟩ := str_add l [z]
theorem conv_one (W : World) (z : Nat) (hz : z < 256) : (convert 22 9 (.slice (some ⟨W.heap.size, 0, none⟩) 1 1)).run Tryd.prog (W.alloc (.cells #[.int .u8 (z : Int)] 5)) = .ok (.string ⟨#[UInt8.ofNat z]⟩) (W.alloc (.cells #[.int .u8 (z : Int)] 5)) := by
  have e : (UInt8.ofNat z).toNat = z := by rw [UInt8.toNat_ofNat', Nat.mod_eq_of_lt (by simpa using hz)]
  have h := run_convert_bytes_back (P := Tryd.prog) (W.alloc (.cells #[.int .u8 (z : Int)] 5)) 22 9 5 ⟨W.heap.size, 0, none⟩ 1 [UInt8.ofNat z] Tryd.underlying22 Tryd.underlying5 Tryd.underlying9 (fun j hj => by
    obtain rfl : j = 0 := by simpa using hj
    have := blk_cell (heap_alloc_new W (.cells #[.int .u8 (z : Int)] 5)) 0
    rw [show (⟨W.heap.size, 0, none⟩ : Addr).add 0 = ⟨W.heap.size, 0, none⟩ from rfl, this]
    simp [e])
  exact h
set_option maxHeartbeats 1600000 in
set_option maxRecDepth 20000 in
theorem rsays_c (t : Ty) (w : World) : Calls Tryd.prog 17 #[tyV t] w (StrIs (sayB t) w) := by
  have HM := Lib.hid (fun w => may01_c t w)
  cases hm : mayTy t with
  | false =>
    have HS := Lib.hid (show sayB t = [] from by unfold sayB; rw [hm]; rfl)
    rw [hm] at HM
    clear hm
    obtain ⟨b, sg, x⟩ := t
    simp only [tyV] at HM ⊢
    go_enter Tryd.func17, Tryd.ntmps17
    go_wp2_with fail
    refine (HM.out _).mono ?_
    rintro e w1 ⟨rfl, k1⟩
    have K1 := Lib.hid (((Kept.refl [] w).alloc _).trans k1)
    clear k1
    go_wp2_with fail
    go_ret
    exact ⟨by rw [HS.out]; rfl, K1.out⟩
  | true =>
    cases hb : t.b with
    | true =>
      have hs : sayB t = boolL := by unfold sayB; rw [hm, if_pos rfl, if_pos hb]
      have HS := Lib.hid hs
      rw [hm] at HM
      clear hm hs
      obtain ⟨b, sg, x⟩ := t
      simp only at hb
      subst hb
      simp only [tyV] at HM ⊢
      go_enter Tryd.func17, Tryd.ntmps17
      go_wp2_with fail
      refine (HM.out _).mono ?_
      rintro e w1 ⟨rfl, k1⟩
      have K1 := Lib.hid (((Kept.refl [] w).alloc _).trans k1)
      have c0 : w1.cell? ⟨w.heap.size, 0, none⟩ = some (.bool true) := k1.cell (blk_cell (heap_alloc_new w _) 0) (by simp)
      clear k1
      go_wp2_with fail
      go_ret
      exact ⟨by rw [HS.out]; rfl, K1.out⟩
    | false =>
      obtain ⟨h1, h2⟩ := mayTy_num hm hb
      obtain ⟨n, hn⟩ : ∃ n : Nat, t.w = n := ⟨t.w.toNat, by omega⟩
      have hs : sayB t = headT t.sg :: dec2 n := by unfold sayB; rw [hm, hb, hn]; rfl
      have HS := Lib.hid hs
      rw [hm] at HM
      clear hm hs
      obtain ⟨b, sg, x⟩ := t
      simp only at hb hn h1 h2
      subst hb hn
      have hn1 : 1 ≤ n := by omega
      have hn2 : n ≤ 64 := by omega
      simp only [tyV] at HM ⊢
      clear h1 h2
      go_enter Tryd.func17, Tryd.ntmps17
      go_wp2_with fail
      refine (HM.out _).mono ?_
      rintro e w1 ⟨rfl, k1⟩
      have K1 := Lib.hid (((Kept.refl [] w).alloc _).trans k1)
      have c0 : w1.cell? ⟨w.heap.size, 0, none⟩ = some (.bool false) := k1.cell (blk_cell (heap_alloc_new w _) 0) (by simp)
      have c1 : w1.cell? ⟨w.heap.size, 1, none⟩ = some (.bool sg) := k1.cell (blk_cell (heap_alloc_new w _) 1) (by simp)
      have c2 : w1.cell? ⟨w.heap.size, 2, none⟩ = some (.int .i64 (n : Int)) := k1.cell (blk_cell (heap_alloc_new w _) 2) (by simp)
      have hl1 := World.block_lt_of_cell? _ _ c0
      clear k1
      have hu : ∀ x, UInt8.ofNat (48 + x) = 48 + UInt8.ofNat x := fun x => by rw [UInt8.ofNat_add]; rfl
      by_cases h9 : n ≤ 9
      · have HD := Lib.hid (show dec2 n = [48 + UInt8.ofNat (n % 10)] from by
          unfold dec2; rw [if_pos (by omega), Nat.mod_eq_of_lt (by omega), hu])
        have hcv := conv_one w1 (48 + n % 10) (by omega)
        rw [show (((48 + n % 10 : Nat)) : Int) = 48 + (n : Int) % 10 from by omega] at hcv
        clear hu
        cases sg with
        | true =>
          go_wp2_with fail
          go_ret
          exact ⟨by rw [HS.out, HD.out]; exact congrArg (fun x => Ending.returned (.string x)) (str_add [105] [48 + UInt8.ofNat (n % 10)]), K1.out.trans ((Kept.refl [] w1).alloc _)⟩
        | false =>
          go_wp2_with fail
          go_ret
          exact ⟨by rw [HS.out, HD.out]; exact congrArg (fun x => Ending.returned (.string x)) (str_add [117] [48 + UInt8.ofNat (n % 10)]), K1.out.trans ((Kept.refl [] w1).alloc _)⟩
      · have HD := Lib.hid (show dec2 n = [48 + UInt8.ofNat (n / 10), 48 + UInt8.ofNat (n % 10)] from by
          unfold dec2; rw [if_neg (by omega), hu, hu])
        have hcv := conv_one w1 (48 + n / 10) (by omega)
        rw [show (((48 + n / 10 : Nat)) : Int) = 48 + (n : Int) / 10 from by omega] at hcv
        have hcv2 := conv_one (w1.alloc (.cells #[.int .u8 (48 + (n : Int) / 10)] 5)) (48 + n % 10) (by omega)
        rw [show (((48 + n % 10 : Nat)) : Int) = 48 + (n : Int) % 10 from by omega, show (w1.alloc (.cells #[.int .u8 (48 + (n : Int) / 10)] 5)).heap.size = w1.heap.size + 1 from by simp] at hcv2
        clear hu
        cases sg with
        | true =>
          go_wp2_with fail
          go_ret
          refine ⟨?_, K1.out.trans (((Kept.refl [] w1).alloc _).alloc _)⟩
          rw [HS.out, HD.out]
          refine congrArg (fun x => Ending.returned (.string x)) ?_
          have := str_add [105] [48 + UInt8.ofNat (n / 10)]
          rw [show (⟨#[105]⟩ : ByteArray) ++ ⟨#[48 + UInt8.ofNat (n / 10)]⟩ = _ from this]
          exact str_add [105, 48 + UInt8.ofNat (n / 10)] [48 + UInt8.ofNat (n % 10)]
        | false =>
          go_wp2_with fail
          go_ret
          refine ⟨?_, K1.out.trans (((Kept.refl [] w1).alloc _).alloc _)⟩
          rw [HS.out, HD.out]
          refine congrArg (fun x => Ending.returned (.string x)) ?_
          have := str_add [117] [48 + UInt8.ofNat (n / 10)]
          rw [show (⟨#[117]⟩ : ByteArray) ++ ⟨#[48 + UInt8.ofNat (n / 10)]⟩ = _ from this]
          exact str_add [117, 48 + UInt8.ofNat (n / 10)] [48 + UInt8.ofNat (n % 10)]
end Go.Proofs.YtjnjldbegngooaaDoor
