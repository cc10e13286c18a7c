/-
  Law 09's document: Pack.
-/
import Derived.Test.YtjgcfncganleoaaDoorRpA
import Derived.Test.YtjgcfncganleoaaDoorRtG
import Derived.Deep.DeepCutAuto
import Derived.Deep.CutBlock
namespace Go.Proofs.YtjgcfncganleoaaDoor
open Go.ChangeShapes Go.WideShapes Go.ChangeAt Go.RowKit
open Go.Maps (Keyed)
open Go.WideMaps
set_option linter.unusedVariables false
set_option linter.unusedSimpArgs false

variable {w w' w1 W : World}
theorem packBad_of {ts : List Tb} {t : Tb} (ht : t ∈ ts) (h : (mayT t && decide (t.bs = bs0 ts)) = false) : packBad ts = true := by
  unfold packBad
  rw [Bool.or_eq_true, Bool.or_eq_true, List.any_eq_true]
  exact .inr (.inr ⟨t, ht, by rw [h]; rfl⟩)
theorem packBad_no {ts : List Tb} (h1 : 1 ≤ ts.length) (h2 : ts.length ≤ 64) (h : ∀ t ∈ ts, (mayT t && decide (t.bs = bs0 ts)) = true) : packBad ts = false := by
  unfold packBad
  rw [decide_eq_false (by omega), decide_eq_false (by omega), Bool.false_or, Bool.false_or, List.any_eq_false]
  intro t ht
  rw [h t ht]; decide
theorem SlTab.first2 {a : Option Addr} {l : List TV} (h : SlTab w a l) (hl : 0 < l.length) : ∃ b o x0, a = some ⟨b, o, none⟩ ∧ x0 ∈ l ∧ x0.t.bs = bs0 (l.map (·.t)) ∧ w.cell? ⟨b, o, none⟩ = some (.slice x0.ba x0.t.bs.length x0.bc) ∧ w.cell? ⟨b, o + 1, none⟩ = some (.slice x0.ra x0.t.rs.length x0.rc) ∧ x0.at_ w ∧ x0.t.ok := by
  match l, hl with
  | x :: l, _ =>
    obtain ⟨b, o, rfl, h1, h2, h3, h4⟩ := h 0 (by simp)
    refine ⟨b, o, x, rfl, by simp, rfl, ?_, ?_, h3, h4⟩
    · simpa using h1
    · simpa using h2
theorem keep4 {w w' : World} {a0 a1 a2 a3 : Addr} {v0 v1 v2 v3 : Value} (hk : Kept [] w w') (h0 : w.cell? a0 = some v0) (h1 : w.cell? a1 = some v1) (h2 : w.cell? a2 = some v2) (h3 : w.cell? a3 = some v3) :
    w'.cell? a0 = some v0 ∧ w'.cell? a1 = some v1 ∧ w'.cell? a2 = some v2 ∧ w'.cell? a3 = some v3 :=
  ⟨hk.cell h0 (by simp), hk.cell h1 (by simp), hk.cell h2 (by simp), hk.cell h3 (by simp)⟩
set_option maxHeartbeats 6400000 in
set_option maxRecDepth 100000 in
theorem rpacks_c (at_ : Int) (a : Option Addr) (c n : Nat) (l : List TV) (w : World) (hl : l.length = n) (hn : n ≤ 1000000) (hs : SlTab w a l) (hat : -9223372036854775808 ≤ at_ ∧ at_ ≤ 9223372036854775807) :
    Calls Tryd.prog 26 #[.int .i64 at_, .slice a n c] w (PacksPost at_ (l.map (·.t)) w) := by
  have HS := Lib.hid hs
  have HL := Lib.hid hl
  have HTL := Lib.hid (show (l.map (·.t)).length = n from by rw [List.length_map, hl])
  clear hs hl
  go_enter Tryd.func26, Tryd.ntmps26; (try simp only [List.append])
  by_cases hn0 : n = 0
  · have HB := Lib.hid (show packBad (l.map (·.t)) = true from by unfold packBad; rw [HTL.out, decide_eq_true hn0]; rfl)
    subst hn0
    go_wp2_with fail
    go_ret2
    exact .inl ⟨HB.out, rfl, .refl _ _⟩
  by_cases hn64 : n ≤ 64
  rotate_left
  · have HB := Lib.hid (show packBad (l.map (·.t)) = true from by unfold packBad; rw [HTL.out, decide_eq_true (show 64 < n by omega)]; simp)
    go_wp2_with fail
    go_ret2
    exact .inl ⟨HB.out, rfl, .refl _ _⟩
  have hnpos : 0 < n := by omega
  obtain ⟨tb, to_, x0, rfl, hx0m, hx0b, y0, y1, xt0, xok0⟩ := HS.out.first2 (by rw [HL.out]; exact hnpos)
  have HY := Lib.hid (And.intro y0 y1)
  have HX0 := Lib.hid (And.intro hx0b (And.intro xt0 xok0))
  clear y0 y1 hx0m hx0b xt0 xok0
  obtain ⟨x0t, x0ba, x0bc, x0ra, x0rc, x0wl⟩ := x0
  simp only at HY HX0
  go_wp2_with fail
  go_loopw [6, 7] (fun sv iv wr => ∃ (j : Nat), j ≤ n ∧ iv = .int .i64 j ∧ sv = .bool (((l.map (·.t)).take j).any fun t => decide (at_ < (t.rs.length : Int))) ∧ (∀ t ∈ (l.map (·.t)).take j, (mayT t && decide (t.bs = bs0 (l.map (·.t)))) = true) ∧ Kept [] w wr) (fun _ iv _ => n - (intOf iv).toNat)
  case atStart => exact ⟨0, Nat.zero_le _, rfl, rfl, by simp, .refl _ _⟩
  case round =>
    obtain ⟨j, hj, rfl, rfl, hall, hkr⟩ := hrel
    have HALL := Lib.hid hall
    have KR := Lib.hid hkr
    clear hall hkr
    by_cases hjn : j < n
    · have hjl : j < l.length := by rw [HL.out]; exact hjn
      have hjt : j < (l.map (·.t)).length := by rw [HTL.out]; exact hjn
      have HTK := Lib.hid (show (l.map (·.t)).take (j + 1) = (l.map (·.t)).take j ++ [l[j].t] from by
        rw [List.take_succ_eq_append_getElem hjt, List.getElem_map])
      have HMEM := Lib.hid (show l[j].t ∈ l.map (·.t) from List.mem_map_of_mem (List.getElem_mem hjl))
      obtain ⟨b, o, hbo, z0, z1, xt, xok⟩ := (HS.out.kept0 KR.out) j hjl
      injection hbo with hbo
      injection hbo with hbo1 hbo2
      subst hbo1 hbo2
      have XT := Lib.hid (And.intro xt xok)
      clear xt xok
      generalize l[j] = x at *
      obtain ⟨t, tba, tbc, tra, trc, twl⟩ := x
      simp only at z0 z1 XT HTK HMEM
      have XTV := Lib.hid (show TabV wr tba t.bs.length tbc tra t.rs.length trc t twl from XT.out.1)
      have HM := Lib.hid (fun (V : World) (hV : Kept [] wr V) => rmay_c (XTV.out.kept0 hV) XT.out.2)
      have HBU := Lib.hid (fun (V : World) (hV : Kept [] wr V) => rbuses_c ((show TabV w x0ba x0t.bs.length x0bc x0ra x0t.rs.length x0rc x0t x0wl from HX0.out.2.1).kept0 (KR.out.trans hV)) HX0.out.2.2 (XTV.out.kept0 hV) XT.out.2)
      have HEQ := Lib.hid (show decide (x0t.bs = t.bs) = decide (t.bs = bs0 (l.map (·.t))) from by rw [HX0.out.1]; congr 1; exact propext eq_comm)
      rw [HEQ.out] at HBU
      have y0 := KR.out.cell HY.out.1 (by simp)
      have y1 := KR.out.cell HY.out.2 (by simp)
      have HTNL := Lib.hid (rfl : t.rs.length = t.rs.length)
      have htnb : t.rs.length ≤ 140737488351232 := XT.out.2.rl
      obtain ⟨tn, htn⟩ : ∃ q, q = t.rs.length := ⟨_, rfl⟩
      obtain ⟨tbn, htbn⟩ : ∃ q, q = t.bs.length := ⟨_, rfl⟩
      obtain ⟨x0n, hx0n⟩ : ∃ q, q = x0t.bs.length := ⟨_, rfl⟩
      obtain ⟨x0r, hx0r⟩ : ∃ q, q = x0t.rs.length := ⟨_, rfl⟩
      have HTN := Lib.hid htn
      rw [← htbn] at z0 HM HBU
      rw [← htn] at z1 htnb HM HBU
      rw [← hx0n] at y0 HBU
      rw [← hx0r] at y1 HBU
      clear htn htbn hx0n hx0r HTNL
      have HCL := Lib.hid (fun (V : World) (hV : Kept [] wr V) => keep4 (w := wr) hV z0 z1 y0 y1)
      have hji : (j : Int) < (n : Int) := by omega
      have hni : (0 : Int) < (n : Int) := by omega
      obtain ⟨sb, hsb⟩ : ∃ q, q = ((l.map (·.t)).take j).any fun t => decide (at_ < (t.rs.length : Int)) := ⟨_, rfl⟩
      have HSB := Lib.hid hsb
      rw [← hsb]
      clear hsb hjl hjt
      go_wp2_with fail
      cases hm : mayT t with
      | false =>
        have HB := Lib.hid (packBad_of HMEM.out (by rw [hm]; rfl))
        rw [hm] at HM
        clear hm
        refine wp_region_kept (by kernel_rfl) ?_
        (go_big_quiet_want; apply Exists.intro; refine ⟨fun V hV => ?_, ?_⟩; rotate_left; go_big_quiet_on; (try simp only [Act.put, List.setIfInBounds_toArray, List.set_cons_zero, List.set_cons_succ]); rotate_right)
        · go_simp
          exact rfl
        (go_big_quiet_want; apply Exists.intro; refine ⟨fun V hV => ?_, ?_⟩; rotate_left; go_big_quiet_on; (try simp only [Act.put, List.setIfInBounds_toArray, List.set_cons_zero, List.set_cons_succ]); rotate_right)
        · go_simp
          exact rfl
        (go_big_quiet_want; apply Exists.intro; refine ⟨fun V hV => ?_, ?_⟩; rotate_left; go_big_quiet_on; (try simp only [Act.put, List.setIfInBounds_toArray, List.set_cons_zero, List.set_cons_succ]); rotate_right)
        · go_simp
          exact rfl
        (go_big_quiet_want; apply Exists.intro; refine ⟨fun V hV => ?_, ?_⟩; rotate_left; go_big_quiet_on; (try simp only [Act.put, List.setIfInBounds_toArray, List.set_cons_zero, List.set_cons_succ]); rotate_right)
        · obtain ⟨g0, g1, g2, g3⟩ := HCL.out V hV
          go_simp
          exact rfl
        (go_big_quiet_want; apply Exists.intro; refine ⟨fun V hV => ?_, ?_⟩; rotate_left; go_big_quiet_on; (try simp only [Act.put, List.setIfInBounds_toArray, List.set_cons_zero, List.set_cons_succ]); rotate_right)
        · go_simp
          exact (HM.out V hV).mono fun e V' h => ⟨h.1, hV.trans h.2⟩
        (go_big_quiet_want; apply Exists.intro; refine ⟨fun V hV => ?_, ?_⟩; rotate_left; go_big_quiet_on; (try simp only [Act.put, List.setIfInBounds_toArray, List.set_cons_zero, List.set_cons_succ]); rotate_right)
        · go_simp
          exact rfl
        (go_big_quiet_want; apply Exists.intro; refine ⟨fun V hV => ?_, ?_⟩; rotate_left; go_big_quiet_on; (try simp only [Act.put, List.setIfInBounds_toArray, List.set_cons_zero, List.set_cons_succ]); rotate_right)
        · go_simp
          exact rfl
        go_big_quiet_skip
        go_big_quiet_skip
        go_big_quiet_skip
        go_big_quiet_skip
        go_big_quiet_skip
        go_big_quiet_skip
        go_big_quiet_skip
        go_big_quiet_skip
        go_big_quiet_skip
        (go_big_quiet_want; apply Exists.intro; refine ⟨fun V hV => ?_, ?_⟩; rotate_left; go_big_quiet_on; (try simp only [Act.put, List.setIfInBounds_toArray, List.set_cons_zero, List.set_cons_succ]); rotate_right)
        · go_simp
          exact rfl
        refine wpQuiet_nil ?_
        intro w3 k3
        have K3 := Lib.hid k3
        clear k3
        go_wp2_with fail
        go_ret2
        exact .inl ⟨HB.out, rfl, KR.out.trans K3.out⟩
      | true =>
        rw [hm] at HM
        obtain ⟨bq, hbq⟩ : ∃ b, b = decide (t.bs = bs0 (l.map (·.t))) := ⟨_, rfl⟩
        have HBQ := Lib.hid (show (mayT t && decide (t.bs = bs0 (l.map (·.t)))) = bq from by rw [hm, ← hbq]; rfl)
        rw [← hbq] at HBU
        clear hm hbq
        refine wp_region_kept (by kernel_rfl) ?_
        (go_big_quiet_want; apply Exists.intro; refine ⟨fun V hV => ?_, ?_⟩; rotate_left; go_big_quiet_on; (try simp only [Act.put, List.setIfInBounds_toArray, List.set_cons_zero, List.set_cons_succ]); rotate_right)
        · go_simp
          exact rfl
        (go_big_quiet_want; apply Exists.intro; refine ⟨fun V hV => ?_, ?_⟩; rotate_left; go_big_quiet_on; (try simp only [Act.put, List.setIfInBounds_toArray, List.set_cons_zero, List.set_cons_succ]); rotate_right)
        · go_simp
          exact rfl
        (go_big_quiet_want; apply Exists.intro; refine ⟨fun V hV => ?_, ?_⟩; rotate_left; go_big_quiet_on; (try simp only [Act.put, List.setIfInBounds_toArray, List.set_cons_zero, List.set_cons_succ]); rotate_right)
        · go_simp
          exact rfl
        (go_big_quiet_want; apply Exists.intro; refine ⟨fun V hV => ?_, ?_⟩; rotate_left; go_big_quiet_on; (try simp only [Act.put, List.setIfInBounds_toArray, List.set_cons_zero, List.set_cons_succ]); rotate_right)
        · obtain ⟨g0, g1, g2, g3⟩ := HCL.out V hV
          go_simp
          exact rfl
        (go_big_quiet_want; apply Exists.intro; refine ⟨fun V hV => ?_, ?_⟩; rotate_left; go_big_quiet_on; (try simp only [Act.put, List.setIfInBounds_toArray, List.set_cons_zero, List.set_cons_succ]); rotate_right)
        · go_simp
          exact (HM.out V hV).mono fun e V' h => ⟨h.1, hV.trans h.2⟩
        (go_big_quiet_want; apply Exists.intro; refine ⟨fun V hV => ?_, ?_⟩; rotate_left; go_big_quiet_on; (try simp only [Act.put, List.setIfInBounds_toArray, List.set_cons_zero, List.set_cons_succ]); rotate_right)
        · go_simp
          exact rfl
        (go_big_quiet_want; apply Exists.intro; refine ⟨fun V hV => ?_, ?_⟩; rotate_left; go_big_quiet_on; (try simp only [Act.put, List.setIfInBounds_toArray, List.set_cons_zero, List.set_cons_succ]); rotate_right)
        · go_simp
          exact rfl
        (go_big_quiet_want; apply Exists.intro; refine ⟨fun V hV => ?_, ?_⟩; rotate_left; go_big_quiet_on; (try simp only [Act.put, List.setIfInBounds_toArray, List.set_cons_zero, List.set_cons_succ]); rotate_right)
        · go_simp
          exact rfl
        (go_big_quiet_want; apply Exists.intro; refine ⟨fun V hV => ?_, ?_⟩; rotate_left; go_big_quiet_on; (try simp only [Act.put, List.setIfInBounds_toArray, List.set_cons_zero, List.set_cons_succ]); rotate_right)
        · go_simp
          exact rfl
        (go_big_quiet_want; apply Exists.intro; refine ⟨fun V hV => ?_, ?_⟩; rotate_left; go_big_quiet_on; (try simp only [Act.put, List.setIfInBounds_toArray, List.set_cons_zero, List.set_cons_succ]); rotate_right)
        · obtain ⟨g0, g1, g2, g3⟩ := HCL.out V hV
          go_simp
          exact rfl
        (go_big_quiet_want; apply Exists.intro; refine ⟨fun V hV => ?_, ?_⟩; rotate_left; go_big_quiet_on; (try simp only [Act.put, List.setIfInBounds_toArray, List.set_cons_zero, List.set_cons_succ]); rotate_right)
        · go_simp
          exact rfl
        (go_big_quiet_want; apply Exists.intro; refine ⟨fun V hV => ?_, ?_⟩; rotate_left; go_big_quiet_on; (try simp only [Act.put, List.setIfInBounds_toArray, List.set_cons_zero, List.set_cons_succ]); rotate_right)
        · go_simp
          exact rfl
        (go_big_quiet_want; apply Exists.intro; refine ⟨fun V hV => ?_, ?_⟩; rotate_left; go_big_quiet_on; (try simp only [Act.put, List.setIfInBounds_toArray, List.set_cons_zero, List.set_cons_succ]); rotate_right)
        · go_simp
          exact rfl
        (go_big_quiet_want; apply Exists.intro; refine ⟨fun V hV => ?_, ?_⟩; rotate_left; go_big_quiet_on; (try simp only [Act.put, List.setIfInBounds_toArray, List.set_cons_zero, List.set_cons_succ]); rotate_right)
        · obtain ⟨g0, g1, g2, g3⟩ := HCL.out V hV
          go_simp
          exact rfl
        (go_big_quiet_want; apply Exists.intro; refine ⟨fun V hV => ?_, ?_⟩; rotate_left; go_big_quiet_on; (try simp only [Act.put, List.setIfInBounds_toArray, List.set_cons_zero, List.set_cons_succ]); rotate_right)
        · go_simp
          exact (HBU.out V hV).mono fun e V' h => ⟨h.1, hV.trans h.2⟩
        (go_big_quiet_want; apply Exists.intro; refine ⟨fun V hV => ?_, ?_⟩; rotate_left; go_big_quiet_on; (try simp only [Act.put, List.setIfInBounds_toArray, List.set_cons_zero, List.set_cons_succ]); rotate_right)
        · go_simp
          exact rfl
        (go_big_quiet_want; apply Exists.intro; refine ⟨fun V hV => ?_, ?_⟩; rotate_left; go_big_quiet_on; (try simp only [Act.put, List.setIfInBounds_toArray, List.set_cons_zero, List.set_cons_succ]); rotate_right)
        · go_simp
          exact rfl
        refine wpQuiet_nil ?_
        intro w3 k3
        have K3 := Lib.hid k3
        have z1' := k3.cell z1 (by simp)
        clear k3 z0 z1 y0 y1
        cases bq with
        | false =>
          have HB := Lib.hid (packBad_of HMEM.out HBQ.out)
          go_wp2_with fail
          go_ret2
          exact .inl ⟨HB.out, rfl, KR.out.trans K3.out⟩
        | true =>
          have HA2 := Lib.hid (show ∀ t ∈ (l.map (·.t)).take (j + 1), (mayT t && decide (t.bs = bs0 (l.map (·.t)))) = true from fun u hu => by
            rw [HTK.out] at hu
            rcases List.mem_append.1 hu with hu | hu
            · exact HALL.out u hu
            · rw [List.mem_singleton] at hu; subst hu; exact HBQ.out)
          have HS2 := Lib.hid (show (((l.map (·.t)).take (j + 1)).any fun t => decide (at_ < (t.rs.length : Int))) = (sb || decide (at_ < (tn : Int))) from by
            rw [HTK.out, List.any_append, ← HSB.out, HTN.out]; simp)
          cases sb with
          | true =>
            go_wp2_with fail
            go_roundw
            case rel => exact ⟨j + 1, by omega, by go_num, by rw [HS2.out]; rfl, HA2.out, KR.out.trans K3.out⟩
            case measure => simp [intOf]; omega
          | false =>
            go_wp2_with fail
            go_roundw
            case rel => exact ⟨j + 1, by omega, by go_num, by rw [HS2.out]; rfl, HA2.out, KR.out.trans K3.out⟩
            case measure => simp [intOf]; omega
    · obtain rfl : j = n := by omega
      obtain ⟨w3, rfl⟩ : ∃ v : World, v = wr := ⟨_, rfl⟩
      have HB := Lib.hid (packBad_no (ts := l.map (·.t)) (by rw [HTL.out]; omega) (by rw [HTL.out]; exact hn64) (fun t ht => HALL.out t (by rw [List.take_of_length_le (by rw [HTL.out]; exact Nat.le_refl _)]; exact ht)))
      have HAN := Lib.hid (show (((l.map (·.t)).take j).any fun t => decide (at_ < (t.rs.length : Int))) = ((l.map (·.t)).any fun t => decide (at_ < (t.rs.length : Int))) from by rw [List.take_of_length_le (by rw [HTL.out]; exact Nat.le_refl _)])
      rw [HAN.out]
      by_cases ha0 : at_ < 0
      · have HN := Lib.hid (show packNone at_ (l.map (·.t)) = true from by unfold packNone; rw [decide_eq_true ha0]; rfl)
        generalize ((l.map (·.t)).any fun t => decide (at_ < (t.rs.length : Int))) = sb
        go_wp2_with fail
        go_ret2
        exact .inr (.inl ⟨HB.out, HN.out, rfl, KR.out⟩)
      obtain ⟨i, rfl⟩ : ∃ i : Nat, at_ = (i : Int) := ⟨at_.toNat, by omega⟩
      have HNE := Lib.hid (show packNone (i : Int) (l.map (·.t)) = !((l.map (·.t)).any fun t => decide ((i : Int) < (t.rs.length : Int))) from by unfold packNone; rw [decide_eq_false ha0]; rfl)
      have hi63 : (i : Int) ≤ 9223372036854775807 := hat.2
      clear ha0 hat HALL
      cases hnone : ((l.map (·.t)).any fun t => decide ((i : Int) < (t.rs.length : Int))) with
      | false =>
        have HN := Lib.hid (show packNone (i : Int) (l.map (·.t)) = true from by rw [HNE.out, hnone]; rfl)
        clear hnone
        go_wp2_with fail
        go_ret2
        exact .inr (.inl ⟨HB.out, HN.out, rfl, KR.out⟩)
      | true =>
        have HN := Lib.hid (show packNone (i : Int) (l.map (·.t)) = false from by rw [HNE.out, hnone]; rfl)
        clear hnone HNE HAN
        obtain ⟨n, rfl⟩ : ∃ q, q = j := ⟨_, rfl⟩
        obtain ⟨bn, hbn⟩ : ∃ bn, bn = x0t.bs.length := ⟨_, rfl⟩
        obtain ⟨x0r, hx0r⟩ : ∃ q, q = x0t.rs.length := ⟨_, rfl⟩
        have hY := HY.out
        rw [← hbn, ← hx0r] at hY
        have HBN := Lib.hid (show bn = (bs0 (l.map (·.t))).length from by rw [hbn, HX0.out.1])
        have HY2 := Lib.hid hY
        have HYB := Lib.hid (show SlBus w x0ba (bs0 (l.map (·.t))) from by
          rw [← HX0.out.1]
          exact TabV.bs (show TabV w x0ba x0t.bs.length x0bc x0ra x0t.rs.length x0rc x0t x0wl from HX0.out.2.1))
        have hbn5 : bn ≤ 512 := by
          obtain ⟨h1, h2, h3⟩ := packBad_parts HB.out
          have h4 := h3 _ (List.getElem_mem (show 0 < (l.map (·.t)).length by rw [HTL.out]; exact hnpos))
          have h5 := (mayT_parts h4.1).2.2.2.1
          rw [h4.2, ← HBN.out] at h5
          exact h5
        have KW := Lib.hid KR.out
        have hni : (0 : Int) < (n : Int) := by omega
        clear hbn hx0r hY HX0 HY hj hjn
        go_wp2_with fail
        go_loopw [8, 9] (fun ov iv wr => ∃ (k : Nat) (oa : Option Addr) (oc : Nat) (rs : List WR), k ≤ bn ∧ iv = .int .i64 k ∧ ov = .slice oa k oc ∧ WRows wr oa k oc rs ∧ rs.map (·.l) = colsTo i (l.map (·.t)) k ∧ Stepped w3 wr [] (ft oa) ∧ ∀ b ∈ wrBlocks rs, b ∉ ft oa) (fun _ iv _ => bn - (intOf iv).toNat)
        case atStart => exact ⟨0, none, 0, [], Nat.zero_le _, rfl, rfl, WRows.nil _, rfl, .refl _ _, by simp [wrBlocks]⟩
        case round =>
          obtain ⟨k, oa, oc, rs, hk, rfl, rfl, hrows, hrm, hst, hap⟩ := hrel
          have HR := Lib.hid (And.intro hrows (And.intro hrm hap))
          have KR2 := Lib.hid hst
          have KWR := Lib.hid (KW.out.trans hst.kept)
          have y0 := KWR.out.cell HY2.out.1 (by simp)
          clear hrows hrm hst hap
          by_cases hlt : k < bn
          · have hkb : k < (bs0 (l.map (·.t))).length := by rw [← HBN.out]; exact hlt
            have HCP := Lib.hid (col_pack HB.out i k hkb)
            have HCF := Lib.hid (col_fits HB.out i k hkb)
            have HSU := Lib.hid (colsTo_succ i (l.map (·.t)) k)
            have HWD := Lib.hid (show widthAt (bs0 (l.map (·.t))) k = (bs0 (l.map (·.t)))[k].2 from by unfold widthAt; rw [List.getElem?_eq_getElem hkb]; rfl)
            obtain ⟨gb, go_, rfl, xx0, x1⟩ := HYB.out k hkb
            clear xx0
            rw [← HWD.out] at x1
            obtain ⟨wd, hwd⟩ : ∃ wd : Nat, widthAt (bs0 (l.map (·.t))) k = (wd : Int) := ⟨(widthAt (bs0 (l.map (·.t))) k).toNat, by have := HCF.out.1; omega⟩
            rw [hwd] at x1 HCP HCF HSU
            rw [Int.toNat_natCast] at HSU
            have HX1 := Lib.hid x1
            have hwd1 : 1 ≤ wd := by have := HCF.out.1; omega
            have hwd64 : wd ≤ 64 := by have := HCF.out.1; omega
            clear hwd HWD x1 hkb
            obtain ⟨wA, rfl⟩ : ∃ v : World, v = wr := ⟨_, rfl⟩
            go_wp2_with fail
            clear y0
            go_loopw [10, 11] (fun wv iv wr => ∃ (j : Nat) (wa : Option Addr) (wc : Nat), j ≤ n ∧ iv = .int .i64 j ∧ wv = .slice wa j wc ∧ Own wr 27 wa j wc (nats .u64 (colW i ((l.map (·.t)).take j) k)) ∧ Stepped wA wr [] (ft wa)) (fun _ iv _ => n - (intOf iv).toNat)
            case atStart => exact ⟨0, none, 0, Nat.zero_le _, rfl, rfl, by simpa [nats, colW] using Own.nil _ _, .refl _ _⟩
            case round =>
              obtain ⟨j, wa, wc, hj, rfl, rfl, hown, hst⟩ := hrel
              have HOW := Lib.hid hown
              have HST := Lib.hid hst
              have KWQ := Lib.hid (KWR.out.trans hst.kept)
              clear hown hst
              by_cases hjn : j < n
              · have hjl : j < l.length := by rw [HL.out]; exact hjn
                have hjt : j < (l.map (·.t)).length := by rw [HTL.out]; exact hjn
                have HTK := Lib.hid (show colW i ((l.map (·.t)).take (j + 1)) k = colW i ((l.map (·.t)).take j) k ++ [numAt i k l[j].t] from by
                  rw [List.take_succ_eq_append_getElem hjt, List.getElem_map]
                  simp [colW])
                have HMJ := Lib.hid (show mayT l[j].t = true ∧ l[j].t.bs = bs0 (l.map (·.t)) from (packBad_parts HB.out).2.2 _ (List.mem_map_of_mem (List.getElem_mem hjl)))
                obtain ⟨b, o, hbo, z0, z1, xt, xok⟩ := (HS.out.kept0 KWQ.out) j hjl
                injection hbo with hbo
                injection hbo with hbo1 hbo2
                subst hbo1 hbo2
                have XT := Lib.hid xt
                clear xt z0
                generalize l[j] = x at *
                obtain ⟨t, tba, tbc, tra, trc, twl⟩ := x
                simp only at z1 XT xok HMJ HTK
                obtain ⟨tn, htn⟩ : ∃ q, q = t.rs.length := ⟨_, rfl⟩
                rw [← htn] at z1
                have HTN := Lib.hid htn
                have htn5 : tn ≤ 140737488351232 := by rw [htn]; exact xok.rl
                have hji : (j : Int) < (n : Int) := by omega
                clear htn xok hjl hjt
                by_cases hir : i < tn
                · have hil : i < twl.length := by rw [TabV.rl XT.out, ← HTN.out]; exact hir
                  obtain ⟨rb, ro, rfl, q0, q1⟩ := TabV.rs XT.out i hil
                  have HRW := Lib.hid (TabV.row XT.out i hil)
                  have HRL := Lib.hid (show twl[i].l.length = bn from by rw [mayT_row HMJ.out.1 _ (List.mem_of_getElem? HRW.out), HMJ.out.2, ← HBN.out])
                  have hkl : k < twl[i].l.length := by rw [HRL.out]; exact hlt
                  obtain ⟨ad, had, q2⟩ := q1 k hkl
                  obtain ⟨v, hv⟩ : ∃ v, v = twl[i].l[k] := ⟨_, rfl⟩
                  have HNA := Lib.hid (show numAt i k t = v from by
                    rw [hv]
                    unfold numAt atT
                    rw [if_pos (by rw [← HTN.out]; exact hir), List.getD_eq_getElem?_getD (l := t.rs), HRW.out, Option.getD_some, List.getD_eq_getElem?_getD, List.getElem?_eq_getElem hkl, Option.getD_some])
                  rw [HRL.out] at q0
                  rw [had] at q0
                  rw [← hv] at q2
                  rw [HNA.out] at HTK
                  clear had hv q1 HRW HRL hkl HNA
                  generalize twl[i].c = rcc at *
                  clear hil
                  go_wp2_with (at_builtin; refine wpList_push rfl rfl Tryd.underlying33 u64_info rfl rfl rfl HOW.out rfl (by unfold maxLen; omega) (by omega) ?_; intro a5 c5 w5 hown5 hst5)
                  go_roundw
                  case rel => exact ⟨j + 1, a5, c5, by omega, by go_num, rfl, by rw [HTK.out, ← nats_append]; exact hown5, HST.out.trans hst5⟩
                  case measure => simp [intOf]; omega
                · have HNA := Lib.hid (show numAt i k t = 0 from by
                    unfold numAt
                    rw [if_neg (by rw [← HTN.out]; exact hir)])
                  rw [HNA.out] at HTK
                  go_wp2_with (at_builtin; refine wpList_push rfl rfl Tryd.underlying33 u64_info rfl rfl rfl HOW.out rfl (by unfold maxLen; omega) (by omega) ?_; intro a5 c5 w5 hown5 hst5)
                  go_roundw
                  case rel => exact ⟨j + 1, a5, c5, by omega, by go_num, rfl, by rw [HTK.out, ← nats_append]; exact hown5, HST.out.trans hst5⟩
                  case measure => simp [intOf]; omega
              · obtain rfl : j = n := by omega
                have HTA := Lib.hid (show (l.map (·.t)).take j = l.map (·.t) from List.take_of_length_le (by rw [HTL.out]; exact Nat.le_refl _))
                have hsl := HOW.out.sln
                rw [HTA.out] at hsl
                have HPC := Lib.hid (rpack05_c wd wa wc j (colW i (l.map (·.t)) k) wr (by rw [colW, List.length_map, HTL.out]) hn64 hwd1 hwd64 hsl HCP.out.2 HCF.out.2)
                have HLP := Lib.hid (packT_len hwd64 (l := colW i (l.map (·.t)) k) (by rw [colW, List.length_map, HTL.out]; exact hn64) HCP.out.2)
                have y0 := KWQ.out.cell HY2.out.1 (by simp)
                have y1 := KWQ.out.cell HX1.out (by simp)
                generalize packT wd (colW i (l.map (·.t)) k) = P at *
                clear hsl
                go_wp2_with fail
                refine HPC.out.mono ?_
                rintro e w8 ⟨g8, rfl, ho8, hk8, hf8⟩
                have H8 := Lib.hid (And.intro ho8 hf8)
                have K8 := Lib.hid (show Kept [] wA w8 from HST.out.kept.trans hk8)
                have HOWN := Lib.hid (HR.out.1.own.kept0 K8.out)
                have HQS := Lib.hid (show wA.heap.size ≤ g8 from Nat.le_trans HST.out.kept.size hf8)
                clear ho8 hk8 hf8 y0 y1
                go_wp2_with (at_builtin; refine wpList_push rfl rfl Tryd.underlying23 row_info rfl rfl rfl HOWN.out rfl (by unfold maxLen; omega) (by omega) ?_; intro a9 c9 w9 hown9 hst9)
                go_roundw
                case rel =>
                  obtain ⟨r1, r2, r3⟩ := HR.out
                  have ho9 : Own w9 33 a9 (k + 1) c9 (wrCells rs ++ [.slice (some ⟨g8, 0, none⟩) P.length wd]) := by rw [HLP.out]; exact hown9
                  have hs := WRows.snoc (w0 := wA) (r := ⟨P, some ⟨g8, 0, none⟩, wd⟩) r1 K8.out ho9 hst9 H8.out.1.sln (fun b hb => ⟨H8.out.1.lt b hb, fun hx => by
                    have h1 := r1.own.lt b hx
                    have h2 : b = g8 := by simpa [ft] using hb
                    have h3 := HQS.out
                    omega⟩) r3
                  refine ⟨k + 1, a9, c9, rs ++ [⟨P, some ⟨g8, 0, none⟩, wd⟩], by omega, by go_num, rfl, hs.1, ?_, ?_, hs.2⟩
                  · rw [List.map_append, r2, HSU.out]; rfl
                  · exact (KR2.out.trans ⟨K8.out.more (by simp), fun b hb => .inl hb⟩).trans hst9
                case measure => simp [intOf]; omega
          · obtain rfl : k = bn := by omega
            go_wp2_with fail
            go_ret2
            refine .inr (.inr ⟨HB.out, HN.out, oa, oc, rs, ?_, ?_, ?_, KWR.out⟩)
            · rw [← HBN.out]; rfl
            · rw [← HBN.out]; exact HR.out.1
            · rw [← HBN.out]; exact HR.out.2.1
end Go.Proofs.YtjgcfncganleoaaDoor
