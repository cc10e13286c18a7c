/-
  Package arith: no maker; All of no rows; Choose where it refuses.
-/
import Derived.Test.YtenhbhckhncamaaQArL
namespace Go.Proofs.Ytenhbhckhncamaa
open Go.ChangeShapes Go.WideShapes Go.ChangeAt Go.RowKit
set_option linter.unusedVariables false
set_option linter.unusedSimpArgs false

variable {w w' W V w0 : World} {mb p how q n k x y : Nat} {F F0 F' S S' : List Nat} {g g' : Gr} {a b : Option Addr} {ca cb : Nat} {la lb : List Nat}
set_option maxRecDepth 100000 in
theorem none_one (op : Int) (t : Ty) (w : World) : Calls Try.prog 4 #[.pointer none, .int .i64 op, tyV t, .slice none 0 0] w (ArBad 2 w) := by
  have HA := Lib.hid (fun v V => ar_nil t v V)
  have HO := Lib.hid (fun V => one_e op t V)
  have HBX := Lib.hid (fun V hV => box3 w (.bool t.b) (.bool t.s) (.int .i64 t.w) 24 V hV)
  obtain ⟨oe, hoe⟩ : ∃ m, m = oneE op t := ⟨_, rfl⟩
  rw [← hoe] at HO
  clear hoe
  unfold tyV at *
  generalize t.b = tb at *
  generalize t.s = s at *
  generalize t.w = tw at *
  go_enter Try.func4, Try.ntmps4
  go_wp2_with fail
  refine (HA.out _ _).mono ?_
  rintro e w1 ⟨rfl, k1⟩
  have K1 := Lib.hid (((Kept.refl [] (w.alloc (.cells #[.bool tb, .bool s, .int .i64 tw] 24))).alloc (.cells #[.slice none 0 0] 25)).trans k1)
  obtain ⟨c0, c1, c2⟩ := HBX.out _ K1.out
  clear k1
  go_wp2_with fail
  refine (HO.out _).mono ?_
  rintro e w2 ⟨z, rfl, k2⟩
  have K2 := Lib.hid (((Kept.refl [] w).alloc _).trans (K1.out.trans k2))
  clear k2 c0 c1 c2
  go_wp2_with fail
  go_ret2
  exact ⟨rfl, K2.out⟩
set_option maxRecDepth 100000 in
theorem none_two (op : Int) (t : Ty) (w : World) : Calls Try.prog 5 #[.pointer none, .int .i64 op, tyV t, .slice none 0 0, .slice none 0 0] w (ArBad 2 w) := by
  have HA := Lib.hid (fun v V => ar_nil t v V)
  have i0 : isT t 0 = mayT t := by unfold isT; simp [Nat.pow_pos]
  have HO := Lib.hid (fun V => two_e op t 0 0 (by omega) (by omega) i0 i0 V)
  have HBX := Lib.hid (fun V hV => box3 w (.bool t.b) (.bool t.s) (.int .i64 t.w) 24 V hV)
  clear i0
  obtain ⟨oe, hoe⟩ : ∃ m, m = twoE op t := ⟨_, rfl⟩
  rw [← hoe] at HO
  clear hoe
  unfold tyV at *
  generalize t.b = tb at *
  generalize t.s = s at *
  generalize t.w = tw at *
  go_enter Try.func5, Try.ntmps5
  go_wp2_with fail
  refine (HA.out _ _).mono ?_
  rintro e w1 ⟨rfl, k1⟩
  have K1 := Lib.hid (((Kept.refl [] (w.alloc (.cells #[.bool tb, .bool s, .int .i64 tw] 24))).alloc (.cells #[.slice none 0 0, .slice none 0 0] 25)).trans k1)
  obtain ⟨c0, c1, c2⟩ := HBX.out _ K1.out
  clear k1
  go_wp2_with fail
  refine (HO.out _).mono ?_
  rintro e w2 ⟨z, rfl, k2⟩
  have K2 := Lib.hid (((Kept.refl [] w).alloc _).trans (K1.out.trans k2))
  clear k2 c0 c1 c2
  go_wp2_with fail
  go_ret2
  exact ⟨rfl, K2.out⟩
set_option maxRecDepth 100000 in
theorem none_shift (t : Ty) (by' : Int) (hb1 : -9223372036854775808 ≤ by') (hb2 : by' ≤ 9223372036854775807) (w : World) : Calls Try.prog 6 #[.pointer none, tyV t, .slice none 0 0, .int .i64 by'] w (ArBad 2 w) := by
  have HA := Lib.hid (fun v V => ar_nil t v V)
  have HO := Lib.hid (fun V => shift_e t by' hb1 hb2 V)
  have HBX := Lib.hid (fun V hV => box3 w (.bool t.b) (.bool t.s) (.int .i64 t.w) 24 V hV)
  obtain ⟨oe, hoe⟩ : ∃ m, m = shiftE t by' := ⟨_, rfl⟩
  rw [← hoe] at HO
  clear hoe
  unfold tyV at *
  generalize t.b = tb at *
  generalize t.s = s at *
  generalize t.w = tw at *
  go_enter Try.func6, Try.ntmps6
  go_wp2_with fail
  refine (HA.out _ _).mono ?_
  rintro e w1 ⟨rfl, k1⟩
  have K1 := Lib.hid (((Kept.refl [] (w.alloc (.cells #[.bool tb, .bool s, .int .i64 tw] 24))).alloc (.cells #[.slice none 0 0] 25)).trans k1)
  obtain ⟨c0, c1, c2⟩ := HBX.out _ K1.out
  clear k1
  go_wp2_with fail
  refine (HO.out _).mono ?_
  rintro e w2 ⟨z, rfl, k2⟩
  have K2 := Lib.hid (((Kept.refl [] w).alloc _).trans (K1.out.trans k2))
  clear k2 c0 c1 c2
  go_wp2_with fail
  go_ret2
  exact ⟨rfl, K2.out⟩
set_option maxRecDepth 100000 in
theorem none_conv (t u : Ty) (w : World) : Calls Try.prog 7 #[.pointer none, tyV t, tyV u, .slice none 0 0] w (ArBad 2 w) := by
  have HA := Lib.hid (fun v V => ar_nil t v V)
  have HO := Lib.hid (fun V => conv_e t u V)
  have HBX := Lib.hid (fun V hV => box3k w (.bool t.b) (.bool t.s) (.int .i64 t.w) (.bool u.b) (.bool u.s) (.int .i64 u.w) 24 24 V hV)
  obtain ⟨oe, hoe⟩ : ∃ m, m = convE t u := ⟨_, rfl⟩
  rw [← hoe] at HO
  clear hoe
  unfold tyV at *
  generalize t.b = tb at *
  generalize t.s = s at *
  generalize t.w = tw at *
  generalize u.b = ub at *
  generalize u.s = us at *
  generalize u.w = uw at *
  go_enter Try.func7, Try.ntmps7
  go_wp2_with fail
  refine (HA.out _ _).mono ?_
  rintro e w1 ⟨rfl, k1⟩
  have K1 := Lib.hid (((Kept.refl [] ((w.alloc (.cells #[.bool tb, .bool s, .int .i64 tw] 24)).alloc (.cells #[.bool ub, .bool us, .int .i64 uw] 24))).alloc (.cells #[.slice none 0 0] 25)).trans k1)
  obtain ⟨⟨c0, c1, c2⟩, d0, d1, d2⟩ := HBX.out _ K1.out
  clear k1
  go_wp2_with fail
  refine (HO.out _).mono ?_
  rintro e w2 ⟨z, rfl, k2⟩
  have K2 := Lib.hid ((((Kept.refl [] w).alloc _).alloc _).trans (K1.out.trans k2))
  clear k2 c0 c1 c2 d0 d1 d2
  go_wp2_with fail
  go_ret2
  exact ⟨rfl, K2.out⟩
set_option maxRecDepth 100000 in
theorem none_const (t : Ty) (x : Int) (w : World) : Calls Try.prog 10 #[.pointer none, tyV t, .int .u64 x] w (ArBad 2 w) := by
  have HA := Lib.hid (fun v V => ar_nil t v V)
  unfold tyV at *
  generalize t.b = tb at *
  generalize t.s = s at *
  generalize t.w = tw at *
  go_enter Try.func10, Try.ntmps10
  go_wp2_with fail
  refine (HA.out _ _).mono ?_
  rintro e w1 ⟨rfl, k1⟩
  have K1 := Lib.hid (((Kept.refl [] w).alloc _).trans k1)
  clear k1
  go_wp2_with fail
  go_ret2
  exact ⟨rfl, K1.out⟩
set_option maxRecDepth 100000 in
theorem none_all (op : Int) (t : Ty) (w : World) : Calls Try.prog 9 #[.pointer none, .int .i64 op, tyV t, .slice none 0 0] w (ArBad 2 w) := by
  have HA := Lib.hid (fun v V => ar_nil t v V)
  have HO := Lib.hid (fun V => all_e op t V)
  unfold AllIs at HO
  have HBX := Lib.hid (fun V hV => box3 w (.bool t.b) (.bool t.s) (.int .i64 t.w) 24 V hV)
  obtain ⟨oe, hoe⟩ : ∃ m, m = allE op t := ⟨_, rfl⟩
  rw [← hoe] at HO
  clear hoe
  generalize allN op t = an at *
  unfold tyV at *
  generalize t.b = tb at *
  generalize t.s = s at *
  generalize t.w = tw at *
  go_enter Try.func9, Try.ntmps9
  go_wp2_with fail
  refine (HA.out _ _).mono ?_
  rintro e w1 ⟨rfl, k1⟩
  have K1 := Lib.hid k1
  obtain ⟨c0, c1, c2⟩ := HBX.out _ K1.out
  clear k1
  go_wp2_with fail
  refine (HO.out _).mono ?_
  rintro e w2 ⟨z, rfl, hz, k2⟩
  have K2 := Lib.hid (((Kept.refl [] w).alloc _).trans (K1.out.trans k2))
  clear k2 c0 c1 c2 hz
  go_wp2_with fail
  go_ret2
  exact ⟨rfl, K2.out⟩
set_option maxRecDepth 100000 in
theorem none_choose (c : Int) (a : Option Addr) (n ca : Nat) (w : World) : Calls Try.prog 8 #[.pointer none, .int .u32 c, .slice a n ca, .slice none 0 0] w (ArBad 2 w) := by
  have HA := Lib.hid (fun v V => ar_nil ⟨false, false, (n : Int)⟩ v V)
  unfold tyV at HA
  simp only at HA
  go_enter Try.func8, Try.ntmps8
  go_wp2_with fail
  refine (HA.out _ _).mono ?_
  rintro e w1 ⟨rfl, k1⟩
  have K1 := Lib.hid (((((Kept.refl [] w).alloc _).alloc _).alloc _).trans (((Kept.refl [] _).alloc _).trans k1))
  clear k1
  go_wp2_with fail
  go_ret2
  exact ⟨rfl, K1.out⟩
end Go.Proofs.Ytenhbhckhncamaa
