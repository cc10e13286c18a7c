/-
  Package word: what two words, shifts, conversions and many words refuse.
-/
import Derived.Test.YtenhbhckhncamaaQArB
namespace Go.Proofs.Ytenhbhckhncamaa
open Go.ChangeShapes Go.WideShapes Go.ChangeAt Go.RowKit
set_option linter.unusedVariables false
set_option linter.unusedSimpArgs false

variable {w w' : World}
set_option maxHeartbeats 3200000 in
set_option maxRecDepth 100000 in
theorem two_e (op : Int) (t : Ty) (x y : Nat) (hx : x < 18446744073709551616) (hy : y < 18446744073709551616) (ix : isT t x = mayT t) (iy : isT t y = mayT t) (w : World) : Calls Try.prog 22 #[.int .i64 op, tyV t, .int .u64 (x : Int), .int .u64 (y : Int)] w (ErrIs (twoE op t) w) := by
  have HI := Lib.hid (fun V => is_c t x hx V)
  have HJ := Lib.hid (fun V => is_c t y hy V)
  have HBX := Lib.hid (fun V hV => box3 w (.bool t.b) (.bool t.s) (.int .i64 t.w) 24 V hV)
  rw [ix] at HI
  rw [iy] at HJ
  have HCU := Lib.hid (fun h x V => cut_c t h x V)
  have HLE := Lib.hid (fun h x y V => wless_c t h x y V)
  have HBT := Lib.hid (fun b V => bit_c b V)
  have HE := Lib.hid (show twoE op t = if mayT t = true ∧ 1 ≤ op ∧ op ≤ 12 ∧ (t.b = false ∨ op ≤ 3 ∨ op = 7 ∨ op = 8) then 0 else 1 from rfl)
  obtain ⟨mt, hmt⟩ : ∃ m, m = mayT t := ⟨_, rfl⟩
  rw [← hmt] at HI HJ HE HCU HLE
  clear hmt ix iy
  obtain ⟨on, hon⟩ : ∃ on, on = 2 ^ tyN t - 1 := ⟨_, rfl⟩
  rw [← hon] at HCU
  clear hon
  unfold tyV at *
  generalize t.b = b at *
  generalize t.s = s at *
  generalize t.w = n at *
  obtain ⟨er, her⟩ : ∃ x, x = twoE op t := ⟨_, rfl⟩
  rw [← her] at HE ⊢
  clear her
  cases mt with
  | false =>
    clear HCU HLE
    go_enter Try.func22, Try.ntmps22
    go_wp2_with fail
    refine (HI.out _).mono ?_
    rintro e w1 ⟨rfl, k1⟩
    have K1 := Lib.hid k1
    clear k1
    go_wp2_with fail
    go_ret2
    exact ⟨_, by rw [show er = 1 from by rw [HE.out]; simp]; rfl, ((Kept.refl [] w).alloc _).trans K1.out⟩
  | true =>
    have HCT := Lib.hid (fun x V => HCU.out rfl x V)
    have HLT := Lib.hid (fun x y V => HLE.out rfl x y V)
    clear HCU HLE
    go_enter Try.func22, Try.ntmps22
    go_wp2_with fail
    refine (HI.out _).mono ?_
    rintro e w1 ⟨rfl, k1⟩
    have K1 := Lib.hid k1
    obtain ⟨c0, c1, c2⟩ := HBX.out _ k1
    clear k1
    go_wp2_with fail
    refine (HJ.out _).mono ?_
    rintro e w2 ⟨rfl, k2⟩
    have K2 := Lib.hid (K1.out.trans k2)
    clear c0 c1 c2
    obtain ⟨c0, c1, c2⟩ := HBX.out _ K2.out
    clear k2
    by_cases h1 : op = 1
    · subst h1
      go_wp2_with fail
      go_ret2
      exact ⟨_, by rw [show er = 0 from by rw [HE.out]; simp]; rfl, ((Kept.refl [] w).alloc _).trans K2.out⟩
    have f1 : (op == 1) = false := by simp; omega
    by_cases h2 : op = 2
    · subst h2
      go_wp2_with fail
      go_ret2
      exact ⟨_, by rw [show er = 0 from by rw [HE.out]; simp]; rfl, ((Kept.refl [] w).alloc _).trans K2.out⟩
    have f2 : (op == 2) = false := by simp; omega
    by_cases h3 : op = 3
    · subst h3
      go_wp2_with fail
      go_ret2
      exact ⟨_, by rw [show er = 0 from by rw [HE.out]; simp]; rfl, ((Kept.refl [] w).alloc _).trans K2.out⟩
    have f3 : (op == 3) = false := by simp; omega
    by_cases h7 : op = 7
    · subst h7
      go_wp2_with fail
      refine (HBT.out _ _).mono ?_
      rintro e w4 ⟨⟨z, rfl⟩, k4⟩
      have K4 := Lib.hid (K2.out.trans k4)
      clear k4
      go_wp2_with fail
      go_ret2
      exact ⟨_, by rw [show er = 0 from by rw [HE.out]; simp]; rfl, ((Kept.refl [] w).alloc _).trans K4.out⟩
    have f7 : (op == 7) = false := by simp; omega
    by_cases h8 : op = 8
    · subst h8
      go_wp2_with fail
      refine (HBT.out _ _).mono ?_
      rintro e w4 ⟨⟨z, rfl⟩, k4⟩
      have K4 := Lib.hid (K2.out.trans k4)
      clear k4
      go_wp2_with fail
      go_ret2
      exact ⟨_, by rw [show er = 0 from by rw [HE.out]; simp]; rfl, ((Kept.refl [] w).alloc _).trans K4.out⟩
    have f8 : (op == 8) = false := by simp; omega
    by_cases h4 : op = 4
    · subst h4
      cases b
      case true =>
        go_wp2_with fail
        go_ret2
        exact ⟨_, by rw [show er = 1 from by rw [HE.out]; simp]; rfl, ((Kept.refl [] w).alloc _).trans K2.out⟩
      case false =>
        go_wp2_with fail
        refine (HCT.out _ _).mono ?_
        rintro e w3 ⟨rfl, k3⟩
        have K3 := Lib.hid (K2.out.trans k3)
        clear k3 c0 c1 c2
        go_wp2_with fail
        go_ret2
        exact ⟨_, by rw [show er = 0 from by rw [HE.out]; simp]; rfl, ((Kept.refl [] w).alloc _).trans K3.out⟩
    have f4 : (op == 4) = false := by simp; omega
    by_cases h5 : op = 5
    · subst h5
      cases b
      case true =>
        go_wp2_with fail
        go_ret2
        exact ⟨_, by rw [show er = 1 from by rw [HE.out]; simp]; rfl, ((Kept.refl [] w).alloc _).trans K2.out⟩
      case false =>
        go_wp2_with fail
        refine (HCT.out _ _).mono ?_
        rintro e w3 ⟨rfl, k3⟩
        have K3 := Lib.hid (K2.out.trans k3)
        clear k3 c0 c1 c2
        go_wp2_with fail
        go_ret2
        exact ⟨_, by rw [show er = 0 from by rw [HE.out]; simp]; rfl, ((Kept.refl [] w).alloc _).trans K3.out⟩
    have f5 : (op == 5) = false := by simp; omega
    by_cases h6 : op = 6
    · subst h6
      cases b
      case true =>
        go_wp2_with fail
        go_ret2
        exact ⟨_, by rw [show er = 1 from by rw [HE.out]; simp]; rfl, ((Kept.refl [] w).alloc _).trans K2.out⟩
      case false =>
        go_wp2_with fail
        refine (HCT.out _ _).mono ?_
        rintro e w3 ⟨rfl, k3⟩
        have K3 := Lib.hid (K2.out.trans k3)
        clear k3 c0 c1 c2
        go_wp2_with fail
        go_ret2
        exact ⟨_, by rw [show er = 0 from by rw [HE.out]; simp]; rfl, ((Kept.refl [] w).alloc _).trans K3.out⟩
    have f6 : (op == 6) = false := by simp; omega
    by_cases h9 : op = 9
    · subst h9
      cases b
      case true =>
        go_wp2_with fail
        go_ret2
        exact ⟨_, by rw [show er = 1 from by rw [HE.out]; simp]; rfl, ((Kept.refl [] w).alloc _).trans K2.out⟩
      case false =>
        go_wp2_with fail
        refine (HLT.out _ _ _).mono ?_
        rintro e w3 ⟨bb, rfl, k3⟩
        have K3 := Lib.hid (K2.out.trans k3)
        clear k3 c0 c1 c2
        go_wp2_with fail
        refine (HBT.out _ _).mono ?_
        rintro e w4 ⟨⟨z, rfl⟩, k4⟩
        have K4 := Lib.hid (K3.out.trans k4)
        clear k4
        go_wp2_with fail
        go_ret2
        exact ⟨_, by rw [show er = 0 from by rw [HE.out]; simp]; rfl, ((Kept.refl [] w).alloc _).trans K4.out⟩
    have f9 : (op == 9) = false := by simp; omega
    by_cases h10 : op = 10
    · subst h10
      cases b
      case true =>
        go_wp2_with fail
        go_ret2
        exact ⟨_, by rw [show er = 1 from by rw [HE.out]; simp]; rfl, ((Kept.refl [] w).alloc _).trans K2.out⟩
      case false =>
        go_wp2_with fail
        refine (HLT.out _ _ _).mono ?_
        rintro e w3 ⟨bb, rfl, k3⟩
        have K3 := Lib.hid (K2.out.trans k3)
        clear k3 c0 c1 c2
        go_wp2_with fail
        refine (HBT.out _ _).mono ?_
        rintro e w4 ⟨⟨z, rfl⟩, k4⟩
        have K4 := Lib.hid (K3.out.trans k4)
        clear k4
        go_wp2_with fail
        go_ret2
        exact ⟨_, by rw [show er = 0 from by rw [HE.out]; simp]; rfl, ((Kept.refl [] w).alloc _).trans K4.out⟩
    have f10 : (op == 10) = false := by simp; omega
    by_cases h11 : op = 11
    · subst h11
      cases b
      case true =>
        go_wp2_with fail
        go_ret2
        exact ⟨_, by rw [show er = 1 from by rw [HE.out]; simp]; rfl, ((Kept.refl [] w).alloc _).trans K2.out⟩
      case false =>
        go_wp2_with fail
        refine (HLT.out _ _ _).mono ?_
        rintro e w3 ⟨bb, rfl, k3⟩
        have K3 := Lib.hid (K2.out.trans k3)
        clear k3 c0 c1 c2
        go_wp2_with fail
        refine (HBT.out _ _).mono ?_
        rintro e w4 ⟨⟨z, rfl⟩, k4⟩
        have K4 := Lib.hid (K3.out.trans k4)
        clear k4
        go_wp2_with fail
        go_ret2
        exact ⟨_, by rw [show er = 0 from by rw [HE.out]; simp]; rfl, ((Kept.refl [] w).alloc _).trans K4.out⟩
    have f11 : (op == 11) = false := by simp; omega
    by_cases h12 : op = 12
    · subst h12
      cases b
      case true =>
        go_wp2_with fail
        go_ret2
        exact ⟨_, by rw [show er = 1 from by rw [HE.out]; simp]; rfl, ((Kept.refl [] w).alloc _).trans K2.out⟩
      case false =>
        go_wp2_with fail
        refine (HLT.out _ _ _).mono ?_
        rintro e w3 ⟨bb, rfl, k3⟩
        have K3 := Lib.hid (K2.out.trans k3)
        clear k3 c0 c1 c2
        go_wp2_with fail
        refine (HBT.out _ _).mono ?_
        rintro e w4 ⟨⟨z, rfl⟩, k4⟩
        have K4 := Lib.hid (K3.out.trans k4)
        clear k4
        go_wp2_with fail
        go_ret2
        exact ⟨_, by rw [show er = 0 from by rw [HE.out]; simp]; rfl, ((Kept.refl [] w).alloc _).trans K4.out⟩
    have f12 : (op == 12) = false := by simp; omega
    cases b
    case true =>
      go_wp2_with fail
      go_ret2
      exact ⟨_, by rw [show er = 1 from by rw [HE.out]; rw [if_neg (by omega)]]; rfl, ((Kept.refl [] w).alloc _).trans K2.out⟩
    case false =>
      go_wp2_with fail
      go_ret2
      exact ⟨_, by rw [show er = 1 from by rw [HE.out]; rw [if_neg (by omega)]]; rfl, ((Kept.refl [] w).alloc _).trans K2.out⟩
end Go.Proofs.Ytenhbhckhncamaa
