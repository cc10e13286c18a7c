/-
  Package word: what is refused.
-/
import Derived.Test.YtenhbhckhncamaaQArA
import Derived.BigRegion
import Derived.Deep.RegionHeld3
import Derived.Deep.DeepCutAuto
import Derived.BigQuiet
namespace Go.Proofs.Ytenhbhckhncamaa
open Go.ChangeShapes Go.WideShapes Go.ChangeAt Go.RowKit
set_option linter.unusedVariables false
set_option linter.unusedSimpArgs false

variable {w w' : World}
/-- some number -/
def SomeN (w : World) (e : Ending) (w' : World) : Prop := ∃ n : Int, e = .returned (.int .u64 n) ∧ Kept [] w w'
set_option maxRecDepth 100000 in
theorem cut_c (t : Ty) (h : mayT t = true) (x : Int) (w : World) : Calls Try.prog 45 #[tyV t, .int .u64 x] w fun e w' => e = .returned (.int .u64 (bits .and .u64 x ((2 ^ tyN t - 1 : Nat) : Int))) ∧ Kept [] w w' := by
  have HM := Lib.hid (fun V => may_c t V)
  have HN := Lib.hid (fun V => ones_c t h V)
  rw [h] at HM
  have HBX := Lib.hid (fun V hV => box3 w (.bool t.b) (.bool t.s) (.int .i64 t.w) 24 V hV)
  clear h
  obtain ⟨on, hon⟩ : ∃ on, on = 2 ^ tyN t - 1 := ⟨_, rfl⟩
  rw [← hon] at HN ⊢
  clear hon
  unfold tyV at *
  generalize t.b = b at *
  generalize t.s = s at *
  generalize t.w = n at *
  go_enter Try.func45, Try.ntmps45
  go_wp2_with fail
  refine (HM.out _).mono ?_
  rintro e w1 ⟨rfl, k1⟩
  have K1 := Lib.hid k1
  obtain ⟨c0, c1, c2⟩ := HBX.out _ k1
  clear k1
  go_wp2_with fail
  refine (HN.out _).mono ?_
  rintro e w2 ⟨rfl, k2⟩
  have K2 := Lib.hid (K1.out.trans k2)
  clear k2 c0 c1 c2
  go_wp2_with fail
  go_ret
  exact ⟨rfl, ((Kept.refl [] w).alloc _).trans K2.out⟩
set_option maxRecDepth 100000 in
theorem bit_c (b : Bool) (w : World) : Calls Try.prog 49 #[.bool b] w fun e w' => (∃ n : Int, e = .returned (.tuple #[.int .u64 n, .int .i64 0])) ∧ Kept [] w w' := by
  cases b
  · go_enter Try.func49, Try.ntmps49
    go_wp2_with fail
    go_ret2
    exact ⟨⟨_, rfl⟩, .refl _ _⟩
  · go_enter Try.func49, Try.ntmps49
    go_wp2_with fail
    go_ret2
    exact ⟨⟨_, rfl⟩, .refl _ _⟩
def wideI (t : Ty) (x : Int) : Int := if t.s then IntKind.u64.wrap (wrap64 (IntKind.u64.wrap (x * 2 ^ (64 - tyN t))) / 2 ^ (64 - tyN t)) else x
theorem wp_region_keptW {id : Nat} {Q : Exit → Act → World → Prop} {a : Act} {w : World} {l : List Oper} (hB : Region.lexB .any l.toArray = true)
    (h : wpQuiet Try.prog l.toArray (fun V => Kept [] w V) (fun a' => ∀ w', Kept [] w w' → Q .normal a' w') l a) : (Code.region id l.toArray true).wp Try.prog Q a w :=
  wp_region_quiet (C := fun V => Kept [] w V) (by kernel_rfl) hB (Kept.refl [] w).drew (by simpa using h)
set_option maxRecDepth 100000 in
theorem wide_c (t : Ty) (h : mayT t = true) (x : Int) (w : World) : Calls Try.prog 55 #[tyV t, .int .u64 x] w fun e w' => e = .returned (.int .u64 (wideI t x)) ∧ Kept [] w w' := by
  obtain ⟨hn, h1, h2⟩ := may_n h
  clear h
  unfold tyV wideI
  rw [hn]
  generalize tyN t = m at *
  generalize t.b = b at *
  generalize t.s = s at *
  generalize t.w = n at *
  clear hn
  have e1 : IntKind.i64.wrap (64 - (m : Int)) = 64 - (m : Int) := IntWalk.i64_in _ (by omega)
  cases s
  · go_enter Try.func55, Try.ntmps55
    go_wp2_with fail
    go_ret
    exact ⟨rfl, (Kept.refl [] w).alloc _⟩
  · go_enter Try.func55, Try.ntmps55
    go_wp2_with fail
    go_ret
    exact ⟨rfl, (Kept.refl [] w).alloc _⟩
set_option maxRecDepth 100000 in
theorem wless_c (t : Ty) (h : mayT t = true) (x y : Int) (w : World) : Calls Try.prog 50 #[tyV t, .int .u64 x, .int .u64 y] w fun e w' => ∃ b, e = .returned (.bool b) ∧ Kept [] w w' := by
  have HW := Lib.hid (fun x V => wide_c t h x V)
  have HBX := Lib.hid (fun V hV => box3 w (.bool t.b) (.bool t.s) (.int .i64 t.w) 24 V hV)
  clear h
  obtain ⟨x', hx'⟩ : ∃ z, z = wideI t x := ⟨_, rfl⟩
  obtain ⟨y', hy'⟩ : ∃ z, z = wideI t y := ⟨_, rfl⟩
  have HWX := Lib.hid (fun (V : World) (_ : Kept [] (w.alloc (.cells #[.bool t.b, .bool t.s, .int .i64 t.w] 24)) V) => HW.out x V)
  have HWY := Lib.hid (fun (V : World) (_ : Kept [] (w.alloc (.cells #[.bool t.b, .bool t.s, .int .i64 t.w] 24)) V) => HW.out y V)
  rw [← hx'] at HWX
  rw [← hy'] at HWY
  clear HW hx' hy'
  unfold tyV at *
  generalize t.b = b at *
  generalize t.s = s at *
  generalize t.w = n at *
  cases s
  · go_enter Try.func50, Try.ntmps50
    go_wp2_with fail
    go_ret
    exact ⟨_, rfl, (Kept.refl [] w).alloc _⟩
  · go_enter Try.func50, Try.ntmps50
    go_upto_region 2 with (fail)
    refine wp_region_keptW (by kernel_rfl) ?_
    (go_big_quiet_want; apply Exists.intro; refine ⟨fun V hV => ?_, ?_⟩; rotate_left; go_big_quiet_on; (try simp only [Act.put, List.setIfInBounds_toArray, List.set_cons_zero, List.set_cons_succ]); rotate_right)
    · obtain ⟨c0, c1, c2⟩ := HBX.out V hV
      go_simp
      exact rfl
    try (rename_i Kq hq; clear hq Kq)
    (go_big_quiet_want; apply Exists.intro; refine ⟨fun V hV => ?_, ?_⟩; rotate_left; go_big_quiet_on; (try simp only [Act.put, List.setIfInBounds_toArray, List.set_cons_zero, List.set_cons_succ]); rotate_right)
    · go_simp
      exact rfl
    try (rename_i Kq hq; clear hq Kq)
    (go_big_quiet_want; apply Exists.intro; refine ⟨fun V hV => ?_, ?_⟩; rotate_left; go_big_quiet_on; (try simp only [Act.put, List.setIfInBounds_toArray, List.set_cons_zero, List.set_cons_succ]); rotate_right)
    · go_simp
      exact (HWX.out V hV).mono fun e V' h => ⟨h.1, hV.trans h.2⟩
    try (rename_i Kq hq; clear hq Kq)
    (go_big_quiet_want; apply Exists.intro; refine ⟨fun V hV => ?_, ?_⟩; rotate_left; go_big_quiet_on; (try simp only [Act.put, List.setIfInBounds_toArray, List.set_cons_zero, List.set_cons_succ]); rotate_right)
    · go_simp
      exact rfl
    try (rename_i Kq hq; clear hq Kq)
    (go_big_quiet_want; apply Exists.intro; refine ⟨fun V hV => ?_, ?_⟩; rotate_left; go_big_quiet_on; (try simp only [Act.put, List.setIfInBounds_toArray, List.set_cons_zero, List.set_cons_succ]); rotate_right)
    · obtain ⟨c0, c1, c2⟩ := HBX.out V hV
      go_simp
      exact rfl
    try (rename_i Kq hq; clear hq Kq)
    (go_big_quiet_want; apply Exists.intro; refine ⟨fun V hV => ?_, ?_⟩; rotate_left; go_big_quiet_on; (try simp only [Act.put, List.setIfInBounds_toArray, List.set_cons_zero, List.set_cons_succ]); rotate_right)
    · go_simp
      exact rfl
    try (rename_i Kq hq; clear hq Kq)
    (go_big_quiet_want; apply Exists.intro; refine ⟨fun V hV => ?_, ?_⟩; rotate_left; go_big_quiet_on; (try simp only [Act.put, List.setIfInBounds_toArray, List.set_cons_zero, List.set_cons_succ]); rotate_right)
    · go_simp
      exact (HWY.out V hV).mono fun e V' h => ⟨h.1, hV.trans h.2⟩
    try (rename_i Kq hq; clear hq Kq)
    (go_big_quiet_want; apply Exists.intro; refine ⟨fun V hV => ?_, ?_⟩; rotate_left; go_big_quiet_on; (try simp only [Act.put, List.setIfInBounds_toArray, List.set_cons_zero, List.set_cons_succ]); rotate_right)
    · go_simp
      exact rfl
    try (rename_i Kq hq; clear hq Kq)
    (go_big_quiet_want; apply Exists.intro; refine ⟨fun V hV => ?_, ?_⟩; rotate_left; go_big_quiet_on; (try simp only [Act.put, List.setIfInBounds_toArray, List.set_cons_zero, List.set_cons_succ]); rotate_right)
    · go_simp
      exact rfl
    try (rename_i Kq hq; clear hq Kq)
    (go_big_quiet_want; apply Exists.intro; refine ⟨fun V hV => ?_, ?_⟩; rotate_left; go_big_quiet_on; (try simp only [Act.put, List.setIfInBounds_toArray, List.set_cons_zero, List.set_cons_succ]); rotate_right)
    · go_simp
      exact rfl
    try (rename_i Kq hq; clear hq Kq)
    refine wpQuiet_nil ?_
    intro w1 k1
    go_wp2_with fail
    go_ret
    exact ⟨_, rfl, ((Kept.refl [] w).alloc _).trans k1⟩
set_option maxRecDepth 100000 in
theorem one_e (op : Int) (t : Ty) (w : World) : Calls Try.prog 18 #[.int .i64 op, tyV t, .int .u64 0] w (ErrIs (oneE op t) w) := by
  have HI := Lib.hid (fun V => is_c t 0 (by omega) V)
  have HBX := Lib.hid (fun V hV => box3 w (.bool t.b) (.bool t.s) (.int .i64 t.w) 24 V hV)
  rw [show isT t 0 = mayT t from by unfold isT; simp [Nat.pow_pos]] at HI
  have HCU := Lib.hid (fun h x V => cut_c t h x V)
  have HE := Lib.hid (show oneE op t = if mayT t = true ∧ (op = 1 ∨ (op = 2 ∧ t.b = false)) then 0 else 1 from rfl)
  obtain ⟨mt, hmt⟩ : ∃ m, m = mayT t := ⟨_, rfl⟩
  rw [← hmt] at HI HE HCU
  clear hmt
  obtain ⟨on, hon⟩ : ∃ on, on = 2 ^ tyN t - 1 := ⟨_, rfl⟩
  rw [← hon] at HCU
  clear hon
  unfold tyV at *
  generalize t.b = b at *
  generalize t.s = s at *
  generalize t.w = n at *
  obtain ⟨x, hx⟩ : ∃ x, x = oneE op t := ⟨_, rfl⟩
  rw [← hx] at HE ⊢
  clear hx
  cases mt with
  | false =>
    clear HCU
    go_enter Try.func18, Try.ntmps18
    go_wp2_with fail
    refine (HI.out _).mono ?_
    rintro e w1 ⟨rfl, k1⟩
    have K1 := Lib.hid k1
    clear k1
    go_wp2_with fail
    go_ret2
    exact ⟨_, by rw [show x = 1 from by rw [HE.out]; simp]; rfl, ((Kept.refl [] w).alloc _).trans K1.out⟩
  | true =>
    have HCT := Lib.hid (fun x V => HCU.out rfl x V)
    clear HCU
    go_enter Try.func18, Try.ntmps18
    go_wp2_with fail
    refine (HI.out _).mono ?_
    rintro e w1 ⟨rfl, k1⟩
    have K1 := Lib.hid k1
    obtain ⟨c0, c1, c2⟩ := HBX.out _ k1
    clear k1
    by_cases h1 : op = 1
    · subst h1
      go_wp2_with fail
      refine (HCT.out _ _).mono ?_
      rintro e w2 ⟨rfl, k2⟩
      have K2 := Lib.hid (K1.out.trans k2)
      clear k2 c0 c1 c2
      go_wp2_with fail
      go_ret2
      exact ⟨_, by rw [show x = 0 from by rw [HE.out]; simp]; rfl, ((Kept.refl [] w).alloc _).trans K2.out⟩
    · have f1 : (op == 1) = false := by simp; omega
      by_cases h2 : op = 2
      · subst h2
        cases b
        · go_wp2_with fail
          refine (HCT.out _ _).mono ?_
          rintro e w2 ⟨rfl, k2⟩
          have K2 := Lib.hid (K1.out.trans k2)
          clear k2 c0 c1 c2
          go_wp2_with fail
          go_ret2
          exact ⟨_, by rw [show x = 0 from by rw [HE.out]; simp]; rfl, ((Kept.refl [] w).alloc _).trans K2.out⟩
        · go_wp2_with fail
          go_ret2
          exact ⟨_, by rw [show x = 1 from by rw [HE.out]; simp]; rfl, ((Kept.refl [] w).alloc _).trans K1.out⟩
      · have f2 : (op == 2) = false := by simp; omega
        go_wp2_with fail
        go_ret2
        exact ⟨_, by rw [show x = 1 from by rw [HE.out]; simp [h1, h2]]; rfl, ((Kept.refl [] w).alloc _).trans K1.out⟩
end Go.Proofs.Ytenhbhckhncamaa
