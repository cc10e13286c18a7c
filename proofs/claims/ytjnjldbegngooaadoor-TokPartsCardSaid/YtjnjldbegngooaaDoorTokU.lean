/-
  Law 15: reserved words; numbers that a type holds.
-/
import Derived.Test.YtjnjldbegngooaaDoorTokT
import Derived.Test.YtjnjldbegngooaaDoorWord
namespace Go.Proofs.YtjnjldbegngooaaDoor
open Go.ChangeShapes Go.WideShapes Go.ChangeAt Go.RowKit
set_option linter.unusedVariables false
set_option linter.unusedSimpArgs false

variable {w w' w1 W : World}
theorem mayW_ty (t : Ty) : mayW t.b t.sg t.w = mayTy t := rfl
theorem tyW_ty (t : Ty) : tyW t.b t.sg t.w = tyV t := rfl
theorem reserved_c (s : List UInt8) (hs : s.length ≤ 140737488351232) (w : World) (hL : Laid w) : Calls Tryd.prog 14 #[.string ⟨s.toArray⟩] w fun e w' => e = .returned (.bool (resB s)) ∧ w = w' := by
  obtain ⟨bm, h1, es, cl, h2, h3⟩ := hL.res
  have HLK := Lib.hid (h3 w ⟨s.toArray⟩ h2 hs)
  have hlk : (Instr.lookup 65 (.map (some bm)) (.string ⟨s.toArray⟩) false).run Tryd.prog w = .ok (.bool (resB s)) w := HLK.out
  clear h2 h3
  go_enter Tryd.func14, Tryd.ntmps14
  go_wp2_with fail
  go_ret
  exact ⟨rfl, rfl⟩
theorem hold_sg0 (n : Nat) : decide (n < 2 ^ 0) = decide (n = 0) := by
  rw [Bool.eq_iff_iff]; simp
set_option maxHeartbeats 1600000 in
theorem holds_c (t : Ty) (n : Nat) (hm : mayTy t = true) (hb : t.b = false) (hn : n < 18446744073709551616) (w : World) : Calls Tryd.prog 46 #[tyV t, .int .u64 (n : Int)] w (BoolIs (holdB t n) w) := by
  obtain ⟨h1, h2⟩ := mayTy_num hm hb
  obtain ⟨b, sg, x⟩ := t
  obtain ⟨k, rfl⟩ : ∃ k : Nat, x = k := ⟨x.toNat, by simp only at h1; omega⟩
  simp only at hb h1 h2
  subst hb
  simp only [tyV]
  have KA := Lib.hid ((Kept.refl [] w).alloc (.cells #[.bool false, .bool sg, .int .i64 (k : Int)] 34))
  cases sg with
  | false =>
    have HI := Lib.hid (fun W => word_is false false (k : Int) n hn W)
    have HE := Lib.hid (show fitsW false false (k : Int) n = holdB ⟨false, false, (k : Int)⟩ n from by
      unfold fitsW mayW holdB
      simp only [Bool.false_eq_true, if_false]
      have e1 : decide (1 ≤ (k : Int)) = true := decide_eq_true h1
      have e2 : decide ((k : Int) ≤ 64) = true := decide_eq_true h2
      rw [e1, e2]
      simp)
    simp only [tyW] at HI
    clear h1 h2
    go_enter Tryd.func46, Tryd.ntmps46
    go_wp2_with fail
    refine (HI.out _).mono ?_
    rintro e w1 ⟨rfl, k1⟩
    have K1 := Lib.hid (KA.out.trans k1)
    clear k1
    go_wp2_with fail
    go_ret
    exact ⟨by rw [HE.out]; rfl, K1.out⟩
  | true =>
    by_cases hk : k = 1
    · subst hk
      have HE := Lib.hid (show decide (n = 0) = holdB ⟨false, true, ((1 : Nat) : Int)⟩ n from by
        rw [← hold_sg0]
        rfl)
      clear h1 h2
      go_enter Tryd.func46, Tryd.ntmps46
      go_wp2_with fail
      go_ret
      have e0 : ((n : Int) == 0) = decide (n = 0) := by rw [Bool.eq_iff_iff]; simp
      exact ⟨by rw [← HE.out, ← e0]; rfl, (Kept.refl [] w).alloc _⟩
    · obtain ⟨j, rfl⟩ : ∃ j, k = j + 1 := ⟨k - 1, by omega⟩
      have HI := Lib.hid (fun W => word_is false false (j : Int) n hn W)
      have HE := Lib.hid (show fitsW false false (j : Int) n = holdB ⟨false, true, ((j + 1 : Nat) : Int)⟩ n from by
        unfold fitsW mayW holdB
        simp only [Bool.false_eq_true, if_false, if_true]
        have e1 : decide (1 ≤ (j : Int)) = true := decide_eq_true (by omega)
        have e2 : decide ((j : Int) ≤ 64) = true := decide_eq_true (by omega)
        rw [e1, e2]
        simp)
      simp only [tyW] at HI
      have hjb : j ≤ 63 := by omega
      have hj0 : ((j : Int) == 0) = false := by rw [beq_eq_false_iff_ne]; omega
      clear h1 h2 hk
      go_enter Tryd.func46, Tryd.ntmps46
      go_wp2_with fail
      refine (HI.out _).mono ?_
      rintro e w1 ⟨rfl, k1⟩
      have K1 := Lib.hid (((Kept.refl [] w).alloc _).trans k1)
      clear k1
      go_wp2_with fail
      go_ret
      exact ⟨by rw [HE.out]; rfl, K1.out⟩
end Go.Proofs.YtjnjldbegngooaaDoor
