/-
  Law 06's Alike: a netlist and the document's that are the same.
-/
import Derived.Test.YtdmcdhkkbkgnbaaGreatQRefB
import Derived.Test.YtdmcdhkkbkgnbaaGreatP31
import Derived.BigQuiet
namespace Go.Proofs.YtdmcdhkkbkgnbaaGreat
open Go.ChangeShapes Go.WideShapes Go.ChangeAt Go.RowKit
open Go.Maps (Keyed)
open Go.WideMaps
set_option linter.unusedVariables false
set_option linter.unusedSimpArgs false

variable {w w' W : World} {p n q k : Nat} {F R F' R' S : List Nat} {g : Gr} {N : Nt}
theorem gateA_in {k a b : Nat} (h : g.nodes[k]? = some (a, b)) (h1 : 1 ≤ k) : gateA g (k : Int) = if a / 2 = k then (0, 0, false) else (a, b, true) := by
  have hk := (List.getElem?_eq_some_iff.1 h).1
  unfold gateA
  rw [if_pos (by omega)]
  simp [h]
set_option maxHeartbeats 1600000 in
set_option maxRecDepth 100000 in
theorem graph_c (hg : GraphAt w p F g) (hr : RefAt w q R g) (hm : g.nodes.length ≤ 90000) :
    Calls Tryz.prog 61 #[.pointer (some ⟨p, 0, none⟩), .pointer (some ⟨q, 0, none⟩)] w (BoolIs true w) := by
  obtain ⟨gb, cn, c2, hnd⟩ := ref_tri hr
  have HND := Lib.hid hnd
  have HG := Lib.hid hg
  have hp := hr.wf.pos
  obtain ⟨ng, hng⟩ : ∃ m, m = g.nodes.length := ⟨_, rfl⟩
  have HNG := Lib.hid hng
  rw [← hng] at c2 hm hp
  have HNO := Lib.hid (fun (V : World) (hV : Kept [] w V) => show Calls Tryz.prog 109 #[.pointer (some ⟨p, 0, none⟩)] V (fun e w' => e = .returned (.int .i64 (ng : Nat)) ∧ Kept [] V w') from by
    rw [hng]
    exact (aig_nodes (hg.kept0 hV) (by omega)).mono fun e V' h => ⟨h.1, by obtain ⟨_, rfl⟩ := h; exact Kept.refl _ _⟩)
  have HC := Lib.hid (fun (V : World) (hV : Kept [] w V) => hV.cell c2 (by simp))
  clear hng hnd hg hr
  go_enter Tryz.func61, Tryz.ntmps61
  go_wp2_with fail
  refine wp_region_keptW (by kernel_rfl) ?_
  (go_big_quiet_want; apply Exists.intro; refine ⟨fun V hV => ?_, ?_⟩; rotate_left; go_big_quiet_on; (try simp only [Act.put, List.setIfInBounds_toArray, List.set_cons_zero, List.set_cons_succ]); rotate_right)
  · go_simp
    exact rfl
  try (rename_i Kq hq; clear hq Kq)
  (go_big_quiet_want; apply Exists.intro; refine ⟨fun V hV => ?_, ?_⟩; rotate_left; go_big_quiet_on; (try simp only [Act.put, List.setIfInBounds_toArray, List.set_cons_zero, List.set_cons_succ]); rotate_right)
  · go_simp
    exact (HNO.out V hV).mono fun e V' h => ⟨h.1, hV.trans h.2⟩
  try (rename_i Kq hq; clear hq Kq)
  (go_big_quiet_want; apply Exists.intro; refine ⟨fun V hV => ?_, ?_⟩; rotate_left; go_big_quiet_on; (try simp only [Act.put, List.setIfInBounds_toArray, List.set_cons_zero, List.set_cons_succ]); rotate_right)
  · go_simp
    exact rfl
  try (rename_i Kq hq; clear hq Kq)
  (go_big_quiet_want; apply Exists.intro; refine ⟨fun V hV => ?_, ?_⟩; rotate_left; go_big_quiet_on; (try simp only [Act.put, List.setIfInBounds_toArray, List.set_cons_zero, List.set_cons_succ]); rotate_right)
  · go_simp
    exact rfl
  try (rename_i Kq hq; clear hq Kq)
  (go_big_quiet_want; apply Exists.intro; refine ⟨fun V hV => ?_, ?_⟩; rotate_left; go_big_quiet_on; (try simp only [Act.put, List.setIfInBounds_toArray, List.set_cons_zero, List.set_cons_succ]); rotate_right)
  · go_simp
    exact rfl
  try (rename_i Kq hq; clear hq Kq)
  (go_big_quiet_want; apply Exists.intro; refine ⟨fun V hV => ?_, ?_⟩; rotate_left; go_big_quiet_on; (try simp only [Act.put, List.setIfInBounds_toArray, List.set_cons_zero, List.set_cons_succ]); rotate_right)
  · have c2 := HC.out V hV
    go_simp
    exact rfl
  try (rename_i Kq hq; clear hq Kq)
  (go_big_quiet_want; apply Exists.intro; refine ⟨fun V hV => ?_, ?_⟩; rotate_left; go_big_quiet_on; (try simp only [Act.put, List.setIfInBounds_toArray, List.set_cons_zero, List.set_cons_succ]); rotate_right)
  · go_simp
    exact rfl
  try (rename_i Kq hq; clear hq Kq)
  (go_big_quiet_want; apply Exists.intro; refine ⟨fun V hV => ?_, ?_⟩; rotate_left; go_big_quiet_on; (try simp only [Act.put, List.setIfInBounds_toArray, List.set_cons_zero, List.set_cons_succ]); rotate_right)
  · go_simp
    exact rfl
  try (rename_i Kq hq; clear hq Kq)
  refine wpQuiet_nil ?_
  intro w1 k1
  have K0 := Lib.hid k1
  clear c2 k1
  have c2 := HC.out _ K0.out
  go_wp2_with fail
  clear c2
  go_loopw [5] (fun v wr => ∃ i : Nat, 1 ≤ i ∧ i ≤ ng ∧ v = .int .i64 i ∧ Kept [] w wr) (fun v _ => ng - (intOf v).toNat)
  case atStart => exact ⟨1, by omega, hp, rfl, K0.out⟩
  case round =>
    obtain ⟨i, hi1, hi, rfl, hkr⟩ := hrel
    have KR := Lib.hid hkr
    clear hkr
    have c2 := HC.out _ KR.out
    by_cases hlt : i < ng
    · have hil : i < g.nodes.length := by rw [← HNG.out]; exact hlt
      obtain ⟨a, b, hab⟩ : ∃ a b, g.nodes[i]? = some (a, b) := ⟨g.nodes[i].1, g.nodes[i].2, List.getElem?_eq_getElem hil⟩
      have HGA := Lib.hid (show Calls Tryz.prog 25 #[.pointer (some ⟨p, 0, none⟩), .int .i64 (i : Int)] wr (GatePost (if a / 2 = i then (0, 0, false) else (a, b, true)) wr) from by
        rw [← gateA_in hab hi1]
        exact aig_gateOf (HG.out.kept0 KR.out) (by rw [← HNG.out]; omega) _ (by omega) (by omega))
      have hcs := HND.out i a b hab
      have i0 : (0 : Int) ≤ (i : Int) := by omega
      have i1 : (i : Int) < (ng : Int) := by omega
      clear hab hil
      by_cases hx : a / 2 = i
      · rw [if_pos hx] at HGA
        obtain ⟨e0, e1, e2⟩ := hcs.1 hx
        rw [show decide (i ≠ 0) = true from by simp; omega] at e0
        have HE := Lib.hid e0
        clear hcs hx e0 e1 e2
        go_wp2_with fail
        refine HGA.out.mono ?_
        rintro e w3 ⟨rfl, k3⟩
        have K3 := Lib.hid (KR.out.trans k3)
        have e0 := K3.out.cell HE.out (by simp)
        have c2' := HC.out _ K3.out
        clear k3 c2
        go_wp2_with fail
        go_roundw
        case rel => exact ⟨i + 1, by omega, by omega, by go_num, K3.out⟩
        case measure => simp [intOf]; omega
      · rw [if_neg hx] at HGA
        have HE := Lib.hid (hcs.2 hx)
        clear hcs hx
        go_wp2_with fail
        refine HGA.out.mono ?_
        rintro e w3 ⟨rfl, k3⟩
        have K3 := Lib.hid (KR.out.trans k3)
        obtain ⟨e0, e1, e2⟩ := HE.out
        have e0' := K3.out.cell e0 (by simp)
        have e1' := K3.out.cell e1 (by simp)
        have e2' := K3.out.cell e2 (by simp)
        have c2' := HC.out _ K3.out
        clear k3 c2 e0 e1 e2
        go_wp2_with fail
        go_roundw
        case rel => exact ⟨i + 1, by omega, by omega, by go_num, K3.out⟩
        case measure => simp [intOf]; omega
    · obtain rfl : ng = i := by omega
      go_wp2_with fail
      go_ret
      exact ⟨rfl, KR.out⟩
set_option maxHeartbeats 1600000 in
set_option maxRecDepth 100000 in
theorem buses_c (a b : Option Addr) (c d n : Nat) (r1 r2 : List BR) (l : List Bus) (w : World) (hl : l.length = n) (hn : n ≤ 1000000) (h1 : r1.map (·.b) = l) (h2 : r2.map (·.b) = l) (ha : SlB w a r1) (hb : SlB w b r2)
    (hr1 : ∀ r ∈ r1, SlN w .u32 r.a r.b.lits) (hr2 : ∀ r ∈ r2, SlN w .u32 r.a r.b.lits) (hz : ∀ x ∈ l, x.lits.length ≤ 1000000) :
    Calls Tryz.prog 62 #[.slice a n c, .slice b n d] w (BoolIs true w) := by
  have HL1 := Lib.hid (show r1.length = n from by rw [← hl, ← h1]; simp)
  have HL2 := Lib.hid (show r2.length = n from by rw [← hl, ← h2]; simp)
  have HE := Lib.hid (fun k (h : k < r1.length) (h' : k < r2.length) => show r1[k].b = r2[k].b from by
    have e1 : (r1.map (·.b))[k]'(by simpa using h) = (r2.map (·.b))[k]'(by simpa using h') := by simp only [h1, h2]
    simpa using e1)
  have HZ := Lib.hid (fun k (h : k < r1.length) => show r1[k].b.lits.length ≤ 1000000 from hz _ (by rw [← h1]; exact List.mem_map_of_mem (List.getElem_mem h)))
  have HA := Lib.hid ha
  have HB := Lib.hid hb
  have HR1 := Lib.hid hr1
  have HR2 := Lib.hid hr2
  clear hl h1 h2 ha hb hr1 hr2 hz
  go_enter Tryz.func62, Tryz.ntmps62
  go_wp2_with fail
  go_loopw [5] (fun i wr => ∃ k : Nat, k ≤ n ∧ i = .int .i64 k ∧ Kept [] w wr) (fun i _ => n - (intOf i).toNat)
  case atStart => exact ⟨0, Nat.zero_le _, rfl, .refl _ _⟩
  case round =>
    obtain ⟨k, hk, rfl, hkr⟩ := hrel
    have KR := Lib.hid hkr
    clear hkr
    by_cases hlt : k < n
    · have hk1 : k < r1.length := by rw [HL1.out]; exact hlt
      have hk2 : k < r2.length := by rw [HL2.out]; exact hlt
      obtain ⟨b1, rfl, x0, x1⟩ := (HA.out.kept0 KR.out) k hk1
      obtain ⟨b2, rfl, y0, y1⟩ := (HB.out.kept0 KR.out) k hk2
      have s1 := (HR1.out _ (List.getElem_mem hk1)).kept0 KR.out
      have s2 := (HR2.out _ (List.getElem_mem hk2)).kept0 KR.out
      have he := HE.out k hk1 hk2
      have hzz := HZ.out k hk1
      rw [← he] at y0 y1 s2
      obtain ⟨ln, hln⟩ : ∃ ln, ln = r1[k].b.lits.length := ⟨_, rfl⟩
      rw [← hln] at x1 y1 hzz
      have HC := Lib.hid (fun (V : World) (hk' : Kept [] wr V) => rows_c r1[k].a r2[k].a r1[k].c r2[k].c ln r1[k].b.lits V hln.symm hzz (s1.kept0 hk') (s2.kept0 hk'))
      have HC2 := Lib.hid (fun (V : World) (hV : Kept [] wr V) => (HC.out V hV).mono fun e V' h => show e = .returned (.bool true) ∧ Kept [] V V' from ⟨h.1, by obtain ⟨_, j, rfl⟩ := h; exact (Kept.refl _ _).drewN j⟩)
      clear HC
      clear s1 s2 he hln
      generalize r1[k].b.name = nm at *
      generalize r1[k].a = a1 at *
      generalize r2[k].a = a2 at *
      generalize r1[k].c = c1 at *
      generalize r2[k].c = c2 at *
      have HX := Lib.hid (fun (V : World) (hV : Kept [] wr V) => And.intro (hV.cell x0 (by simp)) (And.intro (hV.cell x1 (by simp)) (And.intro (hV.cell y0 (by simp)) (hV.cell y1 (by simp)))))
      have m0 : (0 : Int) ≤ (k : Int) := by omega
      have m1 : (k : Int) < (n : Int) := by omega
      clear x0 x1 y0 y1
      go_wp2_with fail
      refine wp_region_keptW (by kernel_rfl) ?_
      (go_big_quiet_want; apply Exists.intro; refine ⟨fun V hV => ?_, ?_⟩; rotate_left; go_big_quiet_on; (try simp only [Act.put, List.setIfInBounds_toArray, List.set_cons_zero, List.set_cons_succ]); rotate_right)
      · go_simp
        exact rfl
      try (rename_i Kq hq; clear hq Kq)
      (go_big_quiet_want; apply Exists.intro; refine ⟨fun V hV => ?_, ?_⟩; rotate_left; go_big_quiet_on; (try simp only [Act.put, List.setIfInBounds_toArray, List.set_cons_zero, List.set_cons_succ]); rotate_right)
      · go_simp
        exact rfl
      try (rename_i Kq hq; clear hq Kq)
      (go_big_quiet_want; apply Exists.intro; refine ⟨fun V hV => ?_, ?_⟩; rotate_left; go_big_quiet_on; (try simp only [Act.put, List.setIfInBounds_toArray, List.set_cons_zero, List.set_cons_succ]); rotate_right)
      · go_simp
        exact rfl
      try (rename_i Kq hq; clear hq Kq)
      (go_big_quiet_want; apply Exists.intro; refine ⟨fun V hV => ?_, ?_⟩; rotate_left; go_big_quiet_on; (try simp only [Act.put, List.setIfInBounds_toArray, List.set_cons_zero, List.set_cons_succ]); rotate_right)
      · go_simp
        exact rfl
      try (rename_i Kq hq; clear hq Kq)
      (go_big_quiet_want; apply Exists.intro; refine ⟨fun V hV => ?_, ?_⟩; rotate_left; go_big_quiet_on; (try simp only [Act.put, List.setIfInBounds_toArray, List.set_cons_zero, List.set_cons_succ]); rotate_right)
      · obtain ⟨z0, z1, z2, z3⟩ := HX.out V hV
        go_simp
        exact rfl
      try (rename_i Kq hq; clear hq Kq)
      (go_big_quiet_want; apply Exists.intro; refine ⟨fun V hV => ?_, ?_⟩; rotate_left; go_big_quiet_on; (try simp only [Act.put, List.setIfInBounds_toArray, List.set_cons_zero, List.set_cons_succ]); rotate_right)
      · go_simp
        exact rfl
      try (rename_i Kq hq; clear hq Kq)
      (go_big_quiet_want; apply Exists.intro; refine ⟨fun V hV => ?_, ?_⟩; rotate_left; go_big_quiet_on; (try simp only [Act.put, List.setIfInBounds_toArray, List.set_cons_zero, List.set_cons_succ]); rotate_right)
      · go_simp
        exact rfl
      try (rename_i Kq hq; clear hq Kq)
      (go_big_quiet_want; apply Exists.intro; refine ⟨fun V hV => ?_, ?_⟩; rotate_left; go_big_quiet_on; (try simp only [Act.put, List.setIfInBounds_toArray, List.set_cons_zero, List.set_cons_succ]); rotate_right)
      · go_simp
        exact rfl
      try (rename_i Kq hq; clear hq Kq)
      (go_big_quiet_want; apply Exists.intro; refine ⟨fun V hV => ?_, ?_⟩; rotate_left; go_big_quiet_on; (try simp only [Act.put, List.setIfInBounds_toArray, List.set_cons_zero, List.set_cons_succ]); rotate_right)
      · go_simp
        exact rfl
      try (rename_i Kq hq; clear hq Kq)
      (go_big_quiet_want; apply Exists.intro; refine ⟨fun V hV => ?_, ?_⟩; rotate_left; go_big_quiet_on; (try simp only [Act.put, List.setIfInBounds_toArray, List.set_cons_zero, List.set_cons_succ]); rotate_right)
      · obtain ⟨z0, z1, z2, z3⟩ := HX.out V hV
        go_simp
        exact rfl
      try (rename_i Kq hq; clear hq Kq)
      (go_big_quiet_want; apply Exists.intro; refine ⟨fun V hV => ?_, ?_⟩; rotate_left; go_big_quiet_on; (try simp only [Act.put, List.setIfInBounds_toArray, List.set_cons_zero, List.set_cons_succ]); rotate_right)
      · go_simp
        exact rfl
      try (rename_i Kq hq; clear hq Kq)
      (go_big_quiet_want; apply Exists.intro; refine ⟨fun V hV => ?_, ?_⟩; rotate_left; go_big_quiet_on; (try simp only [Act.put, List.setIfInBounds_toArray, List.set_cons_zero, List.set_cons_succ]); rotate_right)
      · go_simp
        exact rfl
      try (rename_i Kq hq; clear hq Kq)
      (go_big_quiet_want; apply Exists.intro; refine ⟨fun V hV => ?_, ?_⟩; rotate_left; go_big_quiet_on; (try simp only [Act.put, List.setIfInBounds_toArray, List.set_cons_zero, List.set_cons_succ]); rotate_right)
      · go_simp
        exact rfl
      try (rename_i Kq hq; clear hq Kq)
      (go_big_quiet_want; apply Exists.intro; refine ⟨fun V hV => ?_, ?_⟩; rotate_left; go_big_quiet_on; (try simp only [Act.put, List.setIfInBounds_toArray, List.set_cons_zero, List.set_cons_succ]); rotate_right)
      · go_simp
        exact rfl
      try (rename_i Kq hq; clear hq Kq)
      (go_big_quiet_want; apply Exists.intro; refine ⟨fun V hV => ?_, ?_⟩; rotate_left; go_big_quiet_on; (try simp only [Act.put, List.setIfInBounds_toArray, List.set_cons_zero, List.set_cons_succ]); rotate_right)
      · go_simp
        exact rfl
      try (rename_i Kq hq; clear hq Kq)
      (go_big_quiet_want; apply Exists.intro; refine ⟨fun V hV => ?_, ?_⟩; rotate_left; go_big_quiet_on; (try simp only [Act.put, List.setIfInBounds_toArray, List.set_cons_zero, List.set_cons_succ]); rotate_right)
      · go_simp
        exact rfl
      try (rename_i Kq hq; clear hq Kq)
      (go_big_quiet_want; apply Exists.intro; refine ⟨fun V hV => ?_, ?_⟩; rotate_left; go_big_quiet_on; (try simp only [Act.put, List.setIfInBounds_toArray, List.set_cons_zero, List.set_cons_succ]); rotate_right)
      · obtain ⟨z0, z1, z2, z3⟩ := HX.out V hV
        go_simp
        exact rfl
      try (rename_i Kq hq; clear hq Kq)
      (go_big_quiet_want; apply Exists.intro; refine ⟨fun V hV => ?_, ?_⟩; rotate_left; go_big_quiet_on; (try simp only [Act.put, List.setIfInBounds_toArray, List.set_cons_zero, List.set_cons_succ]); rotate_right)
      · go_simp
        exact rfl
      try (rename_i Kq hq; clear hq Kq)
      (go_big_quiet_want; apply Exists.intro; refine ⟨fun V hV => ?_, ?_⟩; rotate_left; go_big_quiet_on; (try simp only [Act.put, List.setIfInBounds_toArray, List.set_cons_zero, List.set_cons_succ]); rotate_right)
      · go_simp
        exact rfl
      try (rename_i Kq hq; clear hq Kq)
      (go_big_quiet_want; apply Exists.intro; refine ⟨fun V hV => ?_, ?_⟩; rotate_left; go_big_quiet_on; (try simp only [Act.put, List.setIfInBounds_toArray, List.set_cons_zero, List.set_cons_succ]); rotate_right)
      · go_simp
        exact rfl
      try (rename_i Kq hq; clear hq Kq)
      (go_big_quiet_want; apply Exists.intro; refine ⟨fun V hV => ?_, ?_⟩; rotate_left; go_big_quiet_on; (try simp only [Act.put, List.setIfInBounds_toArray, List.set_cons_zero, List.set_cons_succ]); rotate_right)
      · go_simp
        exact rfl
      try (rename_i Kq hq; clear hq Kq)
      (go_big_quiet_want; apply Exists.intro; refine ⟨fun V hV => ?_, ?_⟩; rotate_left; go_big_quiet_on; (try simp only [Act.put, List.setIfInBounds_toArray, List.set_cons_zero, List.set_cons_succ]); rotate_right)
      · obtain ⟨z0, z1, z2, z3⟩ := HX.out V hV
        go_simp
        exact rfl
      try (rename_i Kq hq; clear hq Kq)
      (go_big_quiet_want; apply Exists.intro; refine ⟨fun V hV => ?_, ?_⟩; rotate_left; go_big_quiet_on; (try simp only [Act.put, List.setIfInBounds_toArray, List.set_cons_zero, List.set_cons_succ]); rotate_right)
      · go_simp
        exact (HC2.out V hV).mono fun e V' h => ⟨h.1, hV.trans h.2⟩
      try (rename_i Kq hq; clear hq Kq)
      (go_big_quiet_want; apply Exists.intro; refine ⟨fun V hV => ?_, ?_⟩; rotate_left; go_big_quiet_on; (try simp only [Act.put, List.setIfInBounds_toArray, List.set_cons_zero, List.set_cons_succ]); rotate_right)
      · go_simp
        exact rfl
      try (rename_i Kq hq; clear hq Kq)
      (go_big_quiet_want; apply Exists.intro; refine ⟨fun V hV => ?_, ?_⟩; rotate_left; go_big_quiet_on; (try simp only [Act.put, List.setIfInBounds_toArray, List.set_cons_zero, List.set_cons_succ]); rotate_right)
      · go_simp
        exact rfl
      try (rename_i Kq hq; clear hq Kq)
      refine wpQuiet_nil ?_
      intro w1 k1
      have K1 := Lib.hid (KR.out.trans k1)
      clear k1
      go_wp2_with fail
      go_roundw
      case rel => exact ⟨k + 1, by omega, by go_num, K1.out⟩
      case measure => simp [intOf]; omega
    · go_wp2_with fail
      go_ret
      exact ⟨rfl, KR.out⟩
end Go.Proofs.YtdmcdhkkbkgnbaaGreat
