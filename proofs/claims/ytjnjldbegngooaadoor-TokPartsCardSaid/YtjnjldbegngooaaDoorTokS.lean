/-
  Law 15: a type's text.
-/
import Derived.Test.YtjnjldbegngooaaDoorTokB
import Derived.Test.YtjnjldbegngooaaDoorShelf
namespace Go.Proofs.YtjnjldbegngooaaDoor
open Go.ChangeShapes Go.WideShapes Go.ChangeAt Go.RowKit
set_option linter.unusedVariables false
set_option linter.unusedSimpArgs false

variable {w w' w1 W : World}
theorem says_c (t : Ty) (w : World) : Calls Tryd.prog 16 #[tyV t] w (StrIs (sayB t) w) := by
  have HM := Lib.hid (fun w => mayw_c t w)
  cases hm : mayTy t with
  | false =>
    have HS := Lib.hid (show sayB t = [] from by unfold sayB; rw [hm]; rfl)
    rw [hm] at HM
    clear hm
    obtain ⟨b, sg, x⟩ := t
    simp only [tyV] at HM ⊢
    go_enter Tryd.func16, Tryd.ntmps16
    go_wp2_with fail
    refine (HM.out _).mono ?_
    rintro e w1 ⟨rfl, k1⟩
    have K1 := Lib.hid (((Kept.refl [] w).alloc _).trans k1)
    clear k1
    go_wp2_with fail
    go_ret
    exact ⟨by rw [HS.out]; rfl, K1.out⟩
  | true =>
    cases hb : t.b with
    | true =>
      have hs : sayB t = boolL := by unfold sayB; rw [hm, if_pos rfl, if_pos hb]
      have HS := Lib.hid hs
      rw [hm] at HM
      clear hm hs
      obtain ⟨b, sg, x⟩ := t
      simp only at hb
      subst hb
      simp only [tyV] at HM ⊢
      go_enter Tryd.func16, Tryd.ntmps16
      go_wp2_with fail
      refine (HM.out _).mono ?_
      rintro e w1 ⟨rfl, k1⟩
      have K1 := Lib.hid (((Kept.refl [] w).alloc _).trans k1)
      have c0 : w1.cell? ⟨w.heap.size, 0, none⟩ = some (.bool true) := k1.cell (blk_cell (heap_alloc_new w _) 0) (by simp)
      clear k1
      go_wp2_with fail
      go_ret
      exact ⟨by rw [HS.out]; rfl, K1.out⟩
    | false =>
      obtain ⟨h1, h2⟩ := mayTy_num hm hb
      obtain ⟨n, hn⟩ : ∃ n : Nat, t.w = n := ⟨t.w.toNat, by omega⟩
      have hs : sayB t = headT t.sg :: dec2 n := by unfold sayB; rw [hm, hb, hn]; rfl
      have HS := Lib.hid hs
      rw [hm] at HM
      clear hm hs
      obtain ⟨b, sg, x⟩ := t
      simp only at hb hn h1 h2
      subst hb hn
      simp only [tyV] at HM ⊢
      have HI := Lib.hid (fun w => Tryd.strconv_Itoa_small n (by omega) w)
      have HD := Lib.hid (dec2_dec (n := n) (by omega))
      have hdl : 1 + (dec2 n).length ≤ 9223372036854775807 := by have := dec2_len n; omega
      clear h1 h2
      go_enter Tryd.func16, Tryd.ntmps16
      go_wp2_with fail
      refine (HM.out _).mono ?_
      rintro e w1 ⟨rfl, k1⟩
      have K1 := Lib.hid (((Kept.refl [] w).alloc _).trans k1)
      have c0 : w1.cell? ⟨w.heap.size, 0, none⟩ = some (.bool false) := k1.cell (blk_cell (heap_alloc_new w _) 0) (by simp)
      have c1 : w1.cell? ⟨w.heap.size, 1, none⟩ = some (.bool sg) := k1.cell (blk_cell (heap_alloc_new w _) 1) (by simp)
      have c2 : w1.cell? ⟨w.heap.size, 2, none⟩ = some (.int .i64 (n : Int)) := k1.cell (blk_cell (heap_alloc_new w _) 2) (by simp)
      clear k1
      cases sg with
      | true =>
        go_wp2_with fail
        refine (HI.out w1).mono ?_
        rintro e w2 ⟨rfl, rfl⟩
        rw [HD.out]
        go_wp2_with fail
        go_ret
        exact ⟨by rw [HS.out]; exact congrArg (fun x => Ending.returned (.string x)) (str_add [105] _), K1.out⟩
      | false =>
        go_wp2_with fail
        refine (HI.out w1).mono ?_
        rintro e w2 ⟨rfl, rfl⟩
        rw [HD.out]
        go_wp2_with fail
        go_ret
        exact ⟨by rw [HS.out]; exact congrArg (fun x => Ending.returned (.string x)) (str_add [117] _), K1.out⟩
end Go.Proofs.YtjnjldbegngooaaDoor
