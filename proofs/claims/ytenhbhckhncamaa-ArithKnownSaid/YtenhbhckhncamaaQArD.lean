/-
  Package word: what shifts, conversions and many words refuse.
-/
import Derived.Test.YtenhbhckhncamaaQArC
namespace Go.Proofs.Ytenhbhckhncamaa
open Go.ChangeShapes Go.WideShapes Go.ChangeAt Go.RowKit
set_option linter.unusedVariables false
set_option linter.unusedSimpArgs false

variable {w w' : World}
set_option maxHeartbeats 3200000 in
set_option maxRecDepth 100000 in
theorem shift_e (t : Ty) (by' : Int) (h1 : -9223372036854775808 ≤ by') (h2 : by' ≤ 9223372036854775807) (w : World) : Calls Try.prog 28 #[tyV t, .int .u64 0, .int .i64 by'] w (ErrIs (shiftE t by') w) := by
  have HI := Lib.hid (fun V => is_c t 0 (by omega) V)
  have HBX := Lib.hid (fun V hV => box3 w (.bool t.b) (.bool t.s) (.int .i64 t.w) 24 V hV)
  rw [show isT t 0 = mayT t from by unfold isT; simp [Nat.pow_pos]] at HI
  have HCU := Lib.hid (fun h x V => cut_c t h x V)
  have HWI := Lib.hid (fun h x V => wide_c t h x V)
  have HE := Lib.hid (show shiftE t by' = if mayT t = true ∧ t.b = false ∧ -63 ≤ by' ∧ by' ≤ 63 then 0 else 1 from rfl)
  obtain ⟨mt, hmt⟩ : ∃ m, m = mayT t := ⟨_, rfl⟩
  rw [← hmt] at HI HE HCU HWI
  clear hmt
  obtain ⟨on, hon⟩ : ∃ on, on = 2 ^ tyN t - 1 := ⟨_, rfl⟩
  rw [← hon] at HCU
  clear hon
  obtain ⟨wi, hwi⟩ : ∃ f, f = wideI t := ⟨_, rfl⟩
  rw [← hwi] at HWI
  clear hwi
  obtain ⟨er, her⟩ : ∃ x, x = shiftE t by' := ⟨_, rfl⟩
  rw [← her] at HE ⊢
  clear her
  unfold tyV at *
  generalize t.b = b at *
  generalize t.s = s at *
  generalize t.w = n at *
  cases mt with
  | false =>
    clear HCU HWI
    go_enter Try.func28, Try.ntmps28
    go_wp2_with fail
    refine (HI.out _).mono ?_
    rintro e w1 ⟨rfl, k1⟩
    have K1 := Lib.hid k1
    clear k1
    go_wp2_with fail
    go_ret2
    exact ⟨_, by rw [show er = 1 from by rw [HE.out]; simp]; rfl, ((Kept.refl [] w).alloc _).trans K1.out⟩
  | true =>
    have HCT := Lib.hid (fun x V => HCU.out rfl x V)
    have HWT := Lib.hid (fun x V => HWI.out rfl x V)
    clear HCU HWI
    go_enter Try.func28, Try.ntmps28
    go_wp2_with fail
    refine (HI.out _).mono ?_
    rintro e w1 ⟨rfl, k1⟩
    have K1 := Lib.hid k1
    obtain ⟨c0, c1, c2⟩ := HBX.out _ k1
    clear k1
    cases b
    case true =>
      go_wp2_with fail
      go_ret2
      exact ⟨_, by rw [show er = 1 from by rw [HE.out]; simp]; rfl, ((Kept.refl [] w).alloc _).trans K1.out⟩
    case false =>
      by_cases h3 : by' < -63
      · go_wp2_with fail
        go_ret2
        exact ⟨_, by rw [show er = 1 from by rw [HE.out, if_neg (by omega)]]; rfl, ((Kept.refl [] w).alloc _).trans K1.out⟩
      · by_cases h4 : 63 < by'
        · have h3' : ¬ by' < -63 := h3
          go_wp2_with fail
          go_ret2
          exact ⟨_, by rw [show er = 1 from by rw [HE.out, if_neg (by omega)]]; rfl, ((Kept.refl [] w).alloc _).trans K1.out⟩
        · have HER := Lib.hid (show er = 0 from by rw [HE.out, if_pos (by refine ⟨?_, ?_, ?_, ?_⟩ <;> first | rfl | trivial | omega)])
          have e4 : by' ≤ 63 := by omega
          have e3 : -63 ≤ by' := by omega
          by_cases h5 : 0 ≤ by'
          · obtain ⟨m, rfl⟩ : ∃ m : Nat, by' = (m : Int) := ⟨by'.toNat, by omega⟩
            have HB1 := Lib.hid (fun V (hV : Kept [] w1 V) => HBX.out V (K1.out.trans hV))
            have HC0 := Lib.hid (fun V (_ : Kept [] w1 V) => HCT.out 0 V)
            go_upto_region 4 with (fail)
            refine wp_region_keptW (by kernel_rfl) ?_
            (go_big_quiet_want; apply Exists.intro; refine ⟨fun V hV => ?_, ?_⟩; rotate_left; go_big_quiet_on; (try simp only [Act.put, List.setIfInBounds_toArray, List.set_cons_zero, List.set_cons_succ]); rotate_right)
            · obtain ⟨c0, c1, c2⟩ := HB1.out V hV
              go_simp
              exact rfl
            try (rename_i Kq hq; clear hq Kq)
            (go_big_quiet_want; apply Exists.intro; refine ⟨fun V hV => ?_, ?_⟩; rotate_left; go_big_quiet_on; (try simp only [Act.put, List.setIfInBounds_toArray, List.set_cons_zero, List.set_cons_succ]); rotate_right)
            · go_simp
              exact rfl
            try (rename_i Kq hq; clear hq Kq)
            (go_big_quiet_want; apply Exists.intro; refine ⟨fun V hV => ?_, ?_⟩; rotate_left; go_big_quiet_on; (try simp only [Act.put, List.setIfInBounds_toArray, List.set_cons_zero, List.set_cons_succ]); rotate_right)
            · go_simp
              exact rfl
            try (rename_i Kq hq; clear hq Kq)
            (go_big_quiet_want; apply Exists.intro; refine ⟨fun V hV => ?_, ?_⟩; rotate_left; go_big_quiet_on; (try simp only [Act.put, List.setIfInBounds_toArray, List.set_cons_zero, List.set_cons_succ]); rotate_right)
            · go_simp
              exact rfl
            try (rename_i Kq hq; clear hq Kq)
            (go_big_quiet_want; apply Exists.intro; refine ⟨fun V hV => ?_, ?_⟩; rotate_left; go_big_quiet_on; (try simp only [Act.put, List.setIfInBounds_toArray, List.set_cons_zero, List.set_cons_succ]); rotate_right)
            · go_simp
              exact (HC0.out V hV).mono fun e V' h => ⟨h.1, hV.trans h.2⟩
            try (rename_i Kq hq; clear hq Kq)
            (go_big_quiet_want; apply Exists.intro; refine ⟨fun V hV => ?_, ?_⟩; rotate_left; go_big_quiet_on; (try simp only [Act.put, List.setIfInBounds_toArray, List.set_cons_zero, List.set_cons_succ]); rotate_right)
            · go_simp
              exact rfl
            try (rename_i Kq hq; clear hq Kq)
            (go_big_quiet_want; apply Exists.intro; refine ⟨fun V hV => ?_, ?_⟩; rotate_left; go_big_quiet_on; (try simp only [Act.put, List.setIfInBounds_toArray, List.set_cons_zero, List.set_cons_succ]); rotate_right)
            · go_simp
              exact rfl
            try (rename_i Kq hq; clear hq Kq)
            refine wpQuiet_nil ?_
            intro w3 k3
            go_wp2_with fail
            go_ret2
            exact ⟨_, by rw [HER.out]; rfl, (((Kept.refl [] w).alloc _).trans K1.out).trans k3⟩
          · obtain ⟨m, rfl⟩ : ∃ m : Nat, by' = -(m : Int) := ⟨(-by').toNat, by omega⟩
            have e5 : IntKind.i64.wrap (- -(m : Int)) = (m : Int) := by rw [Int.neg_neg]; exact IntWalk.i64_in _ (by omega)
            have e6 : IntKind.i64.wrap ((m : Int)) = (m : Int) := IntWalk.i64_in _ (by omega)
            cases s
            · go_wp2_with fail
              go_ret2
              exact ⟨_, by rw [HER.out]; rfl, ((Kept.refl [] w).alloc _).trans K1.out⟩
            · have HB1 := Lib.hid (fun V (hV : Kept [] w1 V) => HBX.out V (K1.out.trans hV))
              have HW0 := Lib.hid (fun V (_ : Kept [] w1 V) => HWT.out 0 V)
              have HCX := Lib.hid (fun (V : World) (_ : Kept [] w1 V) {x : Int} => HCT.out x V)
              go_upto_region 6 with (fail)
              refine wp_region_keptW (by kernel_rfl) ?_
              (go_big_quiet_want; apply Exists.intro; refine ⟨fun V hV => ?_, ?_⟩; rotate_left; go_big_quiet_on; (try simp only [Act.put, List.setIfInBounds_toArray, List.set_cons_zero, List.set_cons_succ]); rotate_right)
              · obtain ⟨c0, c1, c2⟩ := HB1.out V hV
                go_simp
                exact rfl
              try (rename_i Kq hq; clear hq Kq)
              (go_big_quiet_want; apply Exists.intro; refine ⟨fun V hV => ?_, ?_⟩; rotate_left; go_big_quiet_on; (try simp only [Act.put, List.setIfInBounds_toArray, List.set_cons_zero, List.set_cons_succ]); rotate_right)
              · obtain ⟨c0, c1, c2⟩ := HB1.out V hV
                go_simp
                exact rfl
              try (rename_i Kq hq; clear hq Kq)
              (go_big_quiet_want; apply Exists.intro; refine ⟨fun V hV => ?_, ?_⟩; rotate_left; go_big_quiet_on; (try simp only [Act.put, List.setIfInBounds_toArray, List.set_cons_zero, List.set_cons_succ]); rotate_right)
              · go_simp
                exact rfl
              try (rename_i Kq hq; clear hq Kq)
              (go_big_quiet_want; apply Exists.intro; refine ⟨fun V hV => ?_, ?_⟩; rotate_left; go_big_quiet_on; (try simp only [Act.put, List.setIfInBounds_toArray, List.set_cons_zero, List.set_cons_succ]); rotate_right)
              · go_simp
                exact (HW0.out V hV).mono fun e V' h => ⟨h.1, hV.trans h.2⟩
              try (rename_i Kq hq; clear hq Kq)
              (go_big_quiet_want; apply Exists.intro; refine ⟨fun V hV => ?_, ?_⟩; rotate_left; go_big_quiet_on; (try simp only [Act.put, List.setIfInBounds_toArray, List.set_cons_zero, List.set_cons_succ]); rotate_right)
              · go_simp
                exact rfl
              try (rename_i Kq hq; clear hq Kq)
              (go_big_quiet_want; apply Exists.intro; refine ⟨fun V hV => ?_, ?_⟩; rotate_left; go_big_quiet_on; (try simp only [Act.put, List.setIfInBounds_toArray, List.set_cons_zero, List.set_cons_succ]); rotate_right)
              · go_simp
                exact rfl
              try (rename_i Kq hq; clear hq Kq)
              (go_big_quiet_want; apply Exists.intro; refine ⟨fun V hV => ?_, ?_⟩; rotate_left; go_big_quiet_on; (try simp only [Act.put, List.setIfInBounds_toArray, List.set_cons_zero, List.set_cons_succ]); rotate_right)
              · go_simp
                exact rfl
              try (rename_i Kq hq; clear hq Kq)
              (go_big_quiet_want; apply Exists.intro; refine ⟨fun V hV => ?_, ?_⟩; rotate_left; go_big_quiet_on; (try simp only [Act.put, List.setIfInBounds_toArray, List.set_cons_zero, List.set_cons_succ]); rotate_right)
              · go_simp
                exact rfl
              try (rename_i Kq hq; clear hq Kq)
              (go_big_quiet_want; apply Exists.intro; refine ⟨fun V hV => ?_, ?_⟩; rotate_left; go_big_quiet_on; (try simp only [Act.put, List.setIfInBounds_toArray, List.set_cons_zero, List.set_cons_succ]); rotate_right)
              · go_simp
                exact rfl
              try (rename_i Kq hq; clear hq Kq)
              (go_big_quiet_want; apply Exists.intro; refine ⟨fun V hV => ?_, ?_⟩; rotate_left; go_big_quiet_on; (try simp only [Act.put, List.setIfInBounds_toArray, List.set_cons_zero, List.set_cons_succ]); rotate_right)
              · go_simp
                exact (HCX.out V hV).mono fun e V' h => ⟨h.1, hV.trans h.2⟩
              try (rename_i Kq hq; clear hq Kq)
              (go_big_quiet_want; apply Exists.intro; refine ⟨fun V hV => ?_, ?_⟩; rotate_left; go_big_quiet_on; (try simp only [Act.put, List.setIfInBounds_toArray, List.set_cons_zero, List.set_cons_succ]); rotate_right)
              · go_simp
                exact rfl
              try (rename_i Kq hq; clear hq Kq)
              (go_big_quiet_want; apply Exists.intro; refine ⟨fun V hV => ?_, ?_⟩; rotate_left; go_big_quiet_on; (try simp only [Act.put, List.setIfInBounds_toArray, List.set_cons_zero, List.set_cons_succ]); rotate_right)
              · go_simp
                exact rfl
              try (rename_i Kq hq; clear hq Kq)
              refine wpQuiet_nil ?_
              intro w3 k3
              go_wp2_with fail
              go_ret2
              exact ⟨_, by rw [HER.out]; rfl, (((Kept.refl [] w).alloc _).trans K1.out).trans k3⟩
theorem cut_bad (t : Ty) (h : mayT t = false) (x : Int) (w : World) : Calls Try.prog 45 #[tyV t, .int .u64 x] w fun e w' => e = .returned (.int .u64 0) ∧ Kept [] w w' := by
  have HM := Lib.hid (fun V => may_c t V)
  rw [h] at HM
  clear h
  unfold tyV at *
  generalize t.b = b at *
  generalize t.s = s at *
  generalize t.w = n at *
  go_enter Try.func45, Try.ntmps45
  go_wp2_with fail
  refine (HM.out _).mono ?_
  rintro e w1 ⟨rfl, k1⟩
  have K1 := Lib.hid k1
  clear k1
  go_wp2_with fail
  go_ret
  exact ⟨rfl, ((Kept.refl [] w).alloc _).trans K1.out⟩
theorem box3k (w : World) (v0 v1 v2 u0 u1 u2 : Value) (T U : TypeId) (V : World) (hV : Kept [] ((w.alloc (.cells #[v0, v1, v2] T)).alloc (.cells #[u0, u1, u2] U)) V) :
    (V.cell? ⟨w.heap.size, 0, none⟩ = some v0 ∧ V.cell? ⟨w.heap.size, 1, none⟩ = some v1 ∧ V.cell? ⟨w.heap.size, 2, none⟩ = some v2) ∧ V.cell? ⟨w.heap.size + 1, 0, none⟩ = some u0 ∧ V.cell? ⟨w.heap.size + 1, 1, none⟩ = some u1 ∧ V.cell? ⟨w.heap.size + 1, 2, none⟩ = some u2 := by
  have h1 := box3 w v0 v1 v2 T V (((Kept.refl [] _).alloc _).trans hV)
  have h2 := box3 (w.alloc (.cells #[v0, v1, v2] T)) u0 u1 u2 U V hV
  rw [show (w.alloc (.cells #[v0, v1, v2] T)).heap.size = w.heap.size + 1 from by simp] at h2
  exact ⟨h1, h2⟩
set_option maxHeartbeats 3200000 in
set_option maxRecDepth 100000 in
theorem conv_e (t u : Ty) (w : World) : Calls Try.prog 30 #[tyV t, tyV u, .int .u64 0] w (ErrIs (convE t u) w) := by
  have HI := Lib.hid (fun V => is_c t 0 (by omega) V)
  rw [show isT t 0 = mayT t from by unfold isT; simp [Nat.pow_pos]] at HI
  have HMU := Lib.hid (fun V => may_c u V)
  have HCU := Lib.hid (fun h x V => cut_c u h x V)
  have HWI := Lib.hid (fun h x V => wide_c t h x V)
  have HBX := Lib.hid (fun V hV => box3k w (.bool t.b) (.bool t.s) (.int .i64 t.w) (.bool u.b) (.bool u.s) (.int .i64 u.w) 24 24 V hV)
  have HE := Lib.hid (show convE t u = if mayT t = true ∧ mayT u = true ∧ (u.b = false ∨ t.b = true) then 0 else 1 from rfl)
  obtain ⟨mt, hmt⟩ : ∃ m, m = mayT t := ⟨_, rfl⟩
  obtain ⟨mu, hmu⟩ : ∃ m, m = mayT u := ⟨_, rfl⟩
  rw [← hmt] at HI HE HWI
  rw [← hmu] at HMU HE HCU
  clear hmt hmu
  obtain ⟨on, hon⟩ : ∃ on, on = 2 ^ tyN u - 1 := ⟨_, rfl⟩
  rw [← hon] at HCU
  clear hon
  obtain ⟨wi, hwi⟩ : ∃ f, f = wideI t := ⟨_, rfl⟩
  rw [← hwi] at HWI
  clear hwi
  obtain ⟨er, her⟩ : ∃ x, x = convE t u := ⟨_, rfl⟩
  rw [← her] at HE ⊢
  clear her
  unfold tyV at *
  generalize t.b = b at *
  generalize t.s = s at *
  generalize t.w = n at *
  generalize u.b = b2 at *
  generalize u.s = s2 at *
  generalize u.w = n2 at *
  have KA := Lib.hid (show Kept [] w ((w.alloc (.cells #[.bool b, .bool s, .int .i64 n] 24)).alloc (.cells #[.bool b2, .bool s2, .int .i64 n2] 24)) from ((Kept.refl [] w).alloc _).alloc _)
  cases mt with
  | false =>
    clear HCU HWI
    go_enter Try.func30, Try.ntmps30
    go_wp2_with fail
    refine (HI.out _).mono ?_
    rintro e w1 ⟨rfl, k1⟩
    have K1 := Lib.hid k1
    clear k1
    go_wp2_with fail
    go_ret2
    exact ⟨_, by rw [show er = 1 from by rw [HE.out]; simp]; rfl, KA.out.trans K1.out⟩
  | true =>
    have HWT := Lib.hid (fun x V => HWI.out rfl x V)
    clear HWI
    go_enter Try.func30, Try.ntmps30
    go_wp2_with fail
    refine (HI.out _).mono ?_
    rintro e w1 ⟨rfl, k1⟩
    have K1 := Lib.hid k1
    obtain ⟨⟨c0, c1, c2⟩, d0, d1, d2⟩ := HBX.out _ k1
    clear k1
    go_wp2_with fail
    refine (HMU.out _).mono ?_
    rintro e w2 ⟨rfl, k2⟩
    have K2 := Lib.hid (K1.out.trans k2)
    clear k2 c0 c1 c2 d0 d1 d2
    obtain ⟨⟨c0, c1, c2⟩, d0, d1, d2⟩ := HBX.out _ K2.out
    cases mu with
    | false =>
      go_wp2_with fail
      go_ret2
      exact ⟨_, by rw [show er = 1 from by rw [HE.out]; simp]; rfl, KA.out.trans K2.out⟩
    | true =>
      have HCT := Lib.hid (fun x V => HCU.out rfl x V)
      clear HCU
      cases b2
      case true =>
        cases b
        case false =>
          go_wp2_with fail
          go_ret2
          exact ⟨_, by rw [show er = 1 from by rw [HE.out]; simp]; rfl, KA.out.trans K2.out⟩
        case true =>
          have HB1 := Lib.hid (fun V (hV : Kept [] w2 V) => show _ ∧ _ ∧ _ ∧ _ ∧ _ ∧ _ from by
            obtain ⟨⟨x0, x1, x2⟩, y0, y1, y2⟩ := HBX.out V (K2.out.trans hV)
            exact ⟨x0, x1, x2, y0, y1, y2⟩)
          have HW0 := Lib.hid (fun V (_ : Kept [] w2 V) => HWT.out 0 V)
          have HCX := Lib.hid (fun (V : World) (_ : Kept [] w2 V) {x : Int} => HCT.out x V)
          go_upto_region 3 with (fail)
          refine wp_region_keptW (by kernel_rfl) ?_
          (go_big_quiet_want; apply Exists.intro; refine ⟨fun V hV => ?_, ?_⟩; rotate_left; go_big_quiet_on; (try simp only [Act.put, List.setIfInBounds_toArray, List.set_cons_zero, List.set_cons_succ]); rotate_right)
          · obtain ⟨x0, x1, x2, x3, x4, x5⟩ := HB1.out V hV
            go_simp
            exact rfl
          try (rename_i Kq hq; clear hq Kq)
          (go_big_quiet_want; apply Exists.intro; refine ⟨fun V hV => ?_, ?_⟩; rotate_left; go_big_quiet_on; (try simp only [Act.put, List.setIfInBounds_toArray, List.set_cons_zero, List.set_cons_succ]); rotate_right)
          · obtain ⟨x0, x1, x2, x3, x4, x5⟩ := HB1.out V hV
            go_simp
            exact rfl
          try (rename_i Kq hq; clear hq Kq)
          (go_big_quiet_want; apply Exists.intro; refine ⟨fun V hV => ?_, ?_⟩; rotate_left; go_big_quiet_on; (try simp only [Act.put, List.setIfInBounds_toArray, List.set_cons_zero, List.set_cons_succ]); rotate_right)
          · go_simp
            exact rfl
          try (rename_i Kq hq; clear hq Kq)
          (go_big_quiet_want; apply Exists.intro; refine ⟨fun V hV => ?_, ?_⟩; rotate_left; go_big_quiet_on; (try simp only [Act.put, List.setIfInBounds_toArray, List.set_cons_zero, List.set_cons_succ]); rotate_right)
          · go_simp
            exact (HW0.out V hV).mono fun e V' h => ⟨h.1, hV.trans h.2⟩
          try (rename_i Kq hq; clear hq Kq)
          (go_big_quiet_want; apply Exists.intro; refine ⟨fun V hV => ?_, ?_⟩; rotate_left; go_big_quiet_on; (try simp only [Act.put, List.setIfInBounds_toArray, List.set_cons_zero, List.set_cons_succ]); rotate_right)
          · go_simp
            exact (HCX.out V hV).mono fun e V' h => ⟨h.1, hV.trans h.2⟩
          try (rename_i Kq hq; clear hq Kq)
          (go_big_quiet_want; apply Exists.intro; refine ⟨fun V hV => ?_, ?_⟩; rotate_left; go_big_quiet_on; (try simp only [Act.put, List.setIfInBounds_toArray, List.set_cons_zero, List.set_cons_succ]); rotate_right)
          · go_simp
            exact rfl
          try (rename_i Kq hq; clear hq Kq)
          (go_big_quiet_want; apply Exists.intro; refine ⟨fun V hV => ?_, ?_⟩; rotate_left; go_big_quiet_on; (try simp only [Act.put, List.setIfInBounds_toArray, List.set_cons_zero, List.set_cons_succ]); rotate_right)
          · go_simp
            exact rfl
          try (rename_i Kq hq; clear hq Kq)
          refine wpQuiet_nil ?_
          intro w4 k4
          have K4 := Lib.hid (K2.out.trans k4)
          go_wp2_with fail
          go_ret2
          exact ⟨_, by rw [show er = 0 from by rw [HE.out]; simp]; rfl, KA.out.trans K4.out⟩
      case false =>
        have HB1 := Lib.hid (fun V (hV : Kept [] w2 V) => show _ ∧ _ ∧ _ ∧ _ ∧ _ ∧ _ from by
          obtain ⟨⟨x0, x1, x2⟩, y0, y1, y2⟩ := HBX.out V (K2.out.trans hV)
          exact ⟨x0, x1, x2, y0, y1, y2⟩)
        have HW0 := Lib.hid (fun V (_ : Kept [] w2 V) => HWT.out 0 V)
        have HCX := Lib.hid (fun (V : World) (_ : Kept [] w2 V) {x : Int} => HCT.out x V)
        go_upto_region 3 with (fail)
        refine wp_region_keptW (by kernel_rfl) ?_
        (go_big_quiet_want; apply Exists.intro; refine ⟨fun V hV => ?_, ?_⟩; rotate_left; go_big_quiet_on; (try simp only [Act.put, List.setIfInBounds_toArray, List.set_cons_zero, List.set_cons_succ]); rotate_right)
        · obtain ⟨x0, x1, x2, x3, x4, x5⟩ := HB1.out V hV
          go_simp
          exact rfl
        try (rename_i Kq hq; clear hq Kq)
        (go_big_quiet_want; apply Exists.intro; refine ⟨fun V hV => ?_, ?_⟩; rotate_left; go_big_quiet_on; (try simp only [Act.put, List.setIfInBounds_toArray, List.set_cons_zero, List.set_cons_succ]); rotate_right)
        · obtain ⟨x0, x1, x2, x3, x4, x5⟩ := HB1.out V hV
          go_simp
          exact rfl
        try (rename_i Kq hq; clear hq Kq)
        (go_big_quiet_want; apply Exists.intro; refine ⟨fun V hV => ?_, ?_⟩; rotate_left; go_big_quiet_on; (try simp only [Act.put, List.setIfInBounds_toArray, List.set_cons_zero, List.set_cons_succ]); rotate_right)
        · go_simp
          exact rfl
        try (rename_i Kq hq; clear hq Kq)
        (go_big_quiet_want; apply Exists.intro; refine ⟨fun V hV => ?_, ?_⟩; rotate_left; go_big_quiet_on; (try simp only [Act.put, List.setIfInBounds_toArray, List.set_cons_zero, List.set_cons_succ]); rotate_right)
        · go_simp
          exact (HW0.out V hV).mono fun e V' h => ⟨h.1, hV.trans h.2⟩
        try (rename_i Kq hq; clear hq Kq)
        (go_big_quiet_want; apply Exists.intro; refine ⟨fun V hV => ?_, ?_⟩; rotate_left; go_big_quiet_on; (try simp only [Act.put, List.setIfInBounds_toArray, List.set_cons_zero, List.set_cons_succ]); rotate_right)
        · go_simp
          exact (HCX.out V hV).mono fun e V' h => ⟨h.1, hV.trans h.2⟩
        try (rename_i Kq hq; clear hq Kq)
        (go_big_quiet_want; apply Exists.intro; refine ⟨fun V hV => ?_, ?_⟩; rotate_left; go_big_quiet_on; (try simp only [Act.put, List.setIfInBounds_toArray, List.set_cons_zero, List.set_cons_succ]); rotate_right)
        · go_simp
          exact rfl
        try (rename_i Kq hq; clear hq Kq)
        (go_big_quiet_want; apply Exists.intro; refine ⟨fun V hV => ?_, ?_⟩; rotate_left; go_big_quiet_on; (try simp only [Act.put, List.setIfInBounds_toArray, List.set_cons_zero, List.set_cons_succ]); rotate_right)
        · go_simp
          exact rfl
        try (rename_i Kq hq; clear hq Kq)
        refine wpQuiet_nil ?_
        intro w4 k4
        have K4 := Lib.hid (K2.out.trans k4)
        go_wp2_with fail
        go_ret2
        exact ⟨_, by rw [show er = 0 from by rw [HE.out]; simp]; rfl, KA.out.trans K4.out⟩
theorem mask_all {m : Nat} (h : m ≤ 64) : bits .and .u64 18446744073709551615 ((2 ^ m - 1 : Nat) : Int) = ((2 ^ m - 1 : Nat) : Int) := by
  have hp : 2 ^ m ≤ 18446744073709551616 := show 2 ^ m ≤ 2 ^ 64 from Nat.pow_le_pow_right (by omega) h
  have e := u64_and_nat 18446744073709551615 (2 ^ m - 1) (by omega) (by omega)
  rw [show ((18446744073709551615 : Nat) : Int) = 18446744073709551615 from rfl] at e
  rw [e, Nat.and_comm, show 18446744073709551615 = 2 ^ 64 - 1 from rfl, Nat.and_two_pow_sub_one_eq_mod]
  congr 1
  exact Nat.mod_eq_of_lt (by omega)
def AllIs (op : Int) (t : Ty) (w : World) (e : Ending) (w' : World) : Prop := ∃ n : Int, e = .returned (.tuple #[.int .u64 n, .int .i64 (allE op t : Nat)]) ∧ (allE op t = 0 → n = (allN op t : Nat)) ∧ Kept [] w w'
set_option maxHeartbeats 3200000 in
set_option maxRecDepth 100000 in
theorem all_e (op : Int) (t : Ty) (w : World) : Calls Try.prog 34 #[.int .i64 op, tyV t, .slice none 0 0] w (AllIs op t w) := by
  have HBX := Lib.hid (fun V hV => box3 w (.bool t.b) (.bool t.s) (.int .i64 t.w) 24 V hV)
  have HT := Lib.hid (fun op x hx ix V => two_e op t x x hx hx ix ix V)
  have h64 : mayT t = true → 1 ≤ tyN t ∧ tyN t ≤ 64 := fun h => (may_n h).2
  have i0 : isT t 0 = mayT t := by unfold isT; simp [Nat.pow_pos]
  have i1 : isT t 1 = mayT t := by
    unfold isT
    cases h : mayT t with
    | false => rfl
    | true =>
      have h1 := (h64 h).1
      have h2 : 2 ^ 1 ≤ 2 ^ tyN t := Nat.pow_le_pow_right (by omega) h1
      simp only [Bool.true_and, decide_eq_true_eq]
      omega
  have HE := Lib.hid (show ∀ o, allE o t = if mayT t = true ∧ (o = 1 ∨ o = 2 ∨ o = 3 ∨ ((o = 4 ∨ o = 6) ∧ t.b = false)) then 0 else 1 from fun _ => rfl)
  have HTE := Lib.hid (show ∀ o, twoE o t = if mayT t = true ∧ 1 ≤ o ∧ o ≤ 12 ∧ (t.b = false ∨ o ≤ 3 ∨ o = 7 ∨ o = 8) then 0 else 1 from fun _ => rfl)
  have HTW : ∀ o, (o = 1 ∨ o = 2 ∨ o = 3 ∨ o = 4 ∨ o = 6) → twoE o t = allE o t := fun o ho => by
    rw [HE.out, HTE.out]
    cases mayT t <;> cases t.b <;> rcases ho with rfl | rfl | rfl | rfl | rfl <;> simp
  have T2 := Lib.hid (fun V => HT.out 2 0 (by omega) i0 V)
  have T3 := Lib.hid (fun V => HT.out 3 0 (by omega) i0 V)
  have T4 := Lib.hid (fun V => HT.out 4 0 (by omega) i0 V)
  have T6 := Lib.hid (fun V => HT.out 6 1 (by omega) i1 V)
  rw [HTW 2 (by simp)] at T2
  rw [HTW 3 (by simp)] at T3
  rw [HTW 4 (by simp)] at T4
  rw [HTW 6 (by simp)] at T6
  have HC1 := Lib.hid (show ∃ x : Nat, (mayT t = true → x = 2 ^ tyN t - 1) ∧ (∀ V, Calls Try.prog 45 #[tyV t, .int .u64 18446744073709551615] V fun e w' => e = .returned (.int .u64 (x : Int)) ∧ Kept [] V w') ∧ (∀ V, Calls Try.prog 22 #[.int .i64 1, tyV t, .int .u64 (x : Int), .int .u64 (x : Int)] V (ErrIs (allE 1 t) V)) from by
    cases h : mayT t with
    | false =>
      refine ⟨0, by simp, fun V => cut_bad t h _ V, fun V => ?_⟩
      have := HT.out 1 0 (by omega) i0 V
      rw [HTW 1 (by simp)] at this
      exact this
    | true =>
      have hm := (h64 h).2
      have hp : 2 ^ tyN t ≤ 18446744073709551616 := show 2 ^ tyN t ≤ 2 ^ 64 from Nat.pow_le_pow_right (by omega) hm
      have hq : 0 < 2 ^ tyN t := Nat.pow_pos (by omega)
      refine ⟨2 ^ tyN t - 1, fun _ => rfl, fun V => ?_, fun V => ?_⟩
      · have := cut_c t h 18446744073709551615 V
        rw [mask_all hm] at this
        exact this
      · have := HT.out 1 (2 ^ tyN t - 1) (by omega) (by unfold isT; rw [h]; simp only [Bool.true_and, decide_eq_true_eq]; omega) V
        rw [HTW 1 (by simp)] at this
        exact this)
  obtain ⟨x, hx, hc, ht⟩ := HC1.out
  have HX := Lib.hid hx
  have HC := Lib.hid hc
  have T1 := Lib.hid ht
  have HN := Lib.hid (show ∀ o, allN o t = if o = 1 then 2 ^ tyN t - 1 else if o = 6 then 1 else 0 from fun _ => rfl)
  have HMA := Lib.hid (show allE 1 t = 0 → mayT t = true from fun h => by rw [HE.out] at h; cases hm : mayT t with | false => rw [hm] at h; simp at h | true => rfl)
  clear hx hc ht HC1 HT HTE HTW i0 i1 h64
  generalize hmm : mayT t = mt at *
  clear hmm
  generalize tyN t = tn at *
  unfold tyV at *
  generalize hb : t.b = b at *
  clear hb
  generalize t.s = s at *
  generalize t.w = n at *
  have KA := Lib.hid (show Kept [] w (w.alloc (.cells #[.bool b, .bool s, .int .i64 n] 24)) from (Kept.refl [] w).alloc _)
  by_cases h1 : op = 1
  · subst h1
    obtain ⟨a, ha⟩ : ∃ a, a = allE 1 t := ⟨_, rfl⟩
    have HA := Lib.hid ha
    rw [← ha] at T1
    clear ha
    go_enter Try.func34, Try.ntmps34
    go_wp2_with fail
    refine (HC.out _).mono ?_
    rintro e w1 ⟨rfl, k1⟩
    have K1 := Lib.hid k1
    obtain ⟨c0, c1, c2⟩ := HBX.out _ k1
    clear k1
    go_wp2_with fail
    refine (T1.out _).mono ?_
    rintro e w2 ⟨z, rfl, k2⟩
    have K2 := Lib.hid (K1.out.trans k2)
    clear k2 c0 c1 c2
    by_cases h0 : a = 0
    · subst h0
      go_wp2_with fail
      go_loopw [8, 41] (fun u v wr => u = .int .u64 (x : Int) ∧ v = .int .i64 0 ∧ w2 = wr) (fun _ _ _ => 0)
      case atStart => exact ⟨rfl, rfl, rfl⟩
      case round =>
        obtain ⟨rfl, rfl, rfl⟩ := hrel
        go_wp2_with fail
        go_ret2
        exact ⟨_, by rw [← HA.out]; rfl, fun h => by rw [HN.out, if_pos rfl, HX.out (HMA.out h)], KA.out.trans K2.out⟩
    · have h1 : ¬ (a : Int) = 0 := by omega
      go_wp2_with fail
      go_ret2
      exact ⟨_, by rw [← HA.out]; rfl, fun h => absurd (HA.out.trans h) h0, KA.out.trans K2.out⟩
  have f1 : (op == 1) = false := by simp; omega
  by_cases h6 : op = 6
  · subst h6
    obtain ⟨a, ha⟩ : ∃ a, a = allE 6 t := ⟨_, rfl⟩
    have HA := Lib.hid ha
    rw [← ha] at T6
    clear ha
    go_enter Try.func34, Try.ntmps34
    obtain ⟨c0, c1, c2⟩ := HBX.out _ (Kept.refl [] _)
    go_wp2_with fail
    refine (T6.out _).mono ?_
    rintro e w2 ⟨z, rfl, k2⟩
    have K2 := Lib.hid ((Kept.refl [] _).trans k2)
    clear k2 c0 c1 c2
    by_cases h0 : a = 0
    · subst h0
      go_wp2_with fail
      go_loopw [8, 41] (fun u v wr => u = .int .u64 1 ∧ v = .int .i64 0 ∧ w2 = wr) (fun _ _ _ => 0)
      case atStart => exact ⟨rfl, rfl, rfl⟩
      case round =>
        obtain ⟨rfl, rfl, rfl⟩ := hrel
        go_wp2_with fail
        go_ret2
        exact ⟨_, by rw [← HA.out]; rfl, fun h => by rw [HN.out]; rfl, KA.out.trans K2.out⟩
    · have h1 : ¬ (a : Int) = 0 := by omega
      go_wp2_with fail
      go_ret2
      exact ⟨_, by rw [← HA.out]; rfl, fun h => absurd (HA.out.trans h) h0, KA.out.trans K2.out⟩
  have f6 : (op == 6) = false := by simp; omega
  by_cases h2 : op = 2
  · subst h2
    obtain ⟨a, ha⟩ : ∃ a, a = allE 2 t := ⟨_, rfl⟩
    have HA := Lib.hid ha
    rw [← ha] at T2
    clear ha
    go_enter Try.func34, Try.ntmps34
    obtain ⟨c0, c1, c2⟩ := HBX.out _ (Kept.refl [] _)
    go_wp2_with fail
    refine (T2.out _).mono ?_
    rintro e w2 ⟨z, rfl, k2⟩
    have K2 := Lib.hid ((Kept.refl [] _).trans k2)
    clear k2 c0 c1 c2
    by_cases h0 : a = 0
    · subst h0
      go_wp2_with fail
      go_loopw [8, 41] (fun u v wr => u = .int .u64 0 ∧ v = .int .i64 0 ∧ w2 = wr) (fun _ _ _ => 0)
      case atStart => exact ⟨rfl, rfl, rfl⟩
      case round =>
        obtain ⟨rfl, rfl, rfl⟩ := hrel
        go_wp2_with fail
        go_ret2
        exact ⟨_, by rw [← HA.out]; rfl, fun h => by rw [HN.out]; rfl, KA.out.trans K2.out⟩
    · have h1 : ¬ (a : Int) = 0 := by omega
      go_wp2_with fail
      go_ret2
      exact ⟨_, by rw [← HA.out]; rfl, fun h => absurd (HA.out.trans h) h0, KA.out.trans K2.out⟩
  have f2 : (op == 2) = false := by simp; omega
  by_cases h3 : op = 3
  · subst h3
    obtain ⟨a, ha⟩ : ∃ a, a = allE 3 t := ⟨_, rfl⟩
    have HA := Lib.hid ha
    rw [← ha] at T3
    clear ha
    go_enter Try.func34, Try.ntmps34
    obtain ⟨c0, c1, c2⟩ := HBX.out _ (Kept.refl [] _)
    go_wp2_with fail
    refine (T3.out _).mono ?_
    rintro e w2 ⟨z, rfl, k2⟩
    have K2 := Lib.hid ((Kept.refl [] _).trans k2)
    clear k2 c0 c1 c2
    by_cases h0 : a = 0
    · subst h0
      go_wp2_with fail
      go_loopw [8, 41] (fun u v wr => u = .int .u64 0 ∧ v = .int .i64 0 ∧ w2 = wr) (fun _ _ _ => 0)
      case atStart => exact ⟨rfl, rfl, rfl⟩
      case round =>
        obtain ⟨rfl, rfl, rfl⟩ := hrel
        go_wp2_with fail
        go_ret2
        exact ⟨_, by rw [← HA.out]; rfl, fun h => by rw [HN.out]; rfl, KA.out.trans K2.out⟩
    · have h1 : ¬ (a : Int) = 0 := by omega
      go_wp2_with fail
      go_ret2
      exact ⟨_, by rw [← HA.out]; rfl, fun h => absurd (HA.out.trans h) h0, KA.out.trans K2.out⟩
  have f3 : (op == 3) = false := by simp; omega
  by_cases h4 : op = 4
  · subst h4
    obtain ⟨a, ha⟩ : ∃ a, a = allE 4 t := ⟨_, rfl⟩
    have HA := Lib.hid ha
    rw [← ha] at T4
    clear ha
    go_enter Try.func34, Try.ntmps34
    obtain ⟨c0, c1, c2⟩ := HBX.out _ (Kept.refl [] _)
    go_wp2_with fail
    refine (T4.out _).mono ?_
    rintro e w2 ⟨z, rfl, k2⟩
    have K2 := Lib.hid ((Kept.refl [] _).trans k2)
    clear k2 c0 c1 c2
    by_cases h0 : a = 0
    · subst h0
      go_wp2_with fail
      go_loopw [8, 41] (fun u v wr => u = .int .u64 0 ∧ v = .int .i64 0 ∧ w2 = wr) (fun _ _ _ => 0)
      case atStart => exact ⟨rfl, rfl, rfl⟩
      case round =>
        obtain ⟨rfl, rfl, rfl⟩ := hrel
        go_wp2_with fail
        go_ret2
        exact ⟨_, by rw [← HA.out]; rfl, fun h => by rw [HN.out]; rfl, KA.out.trans K2.out⟩
    · have h1 : ¬ (a : Int) = 0 := by omega
      go_wp2_with fail
      go_ret2
      exact ⟨_, by rw [← HA.out]; rfl, fun h => absurd (HA.out.trans h) h0, KA.out.trans K2.out⟩
  have f4 : (op == 4) = false := by simp; omega
  go_enter Try.func34, Try.ntmps34
  go_wp2_with fail
  go_ret2
  refine ⟨_, by rw [show allE op t = 1 from by rw [HE.out, if_neg]; rintro ⟨_, h | h | h | ⟨h | h, _⟩⟩ <;> omega]; rfl, fun h => ?_, KA.out⟩
  rw [HE.out, if_neg (by rintro ⟨_, h | h | h | ⟨h | h, _⟩⟩ <;> omega)] at h
  cases h
end Go.Proofs.Ytenhbhckhncamaa
