/-
  SweepLeft: nothing is left: the walk.
-/
import Derived.Test.YtdmcdhkkbkgnbaaGreatP41
import Derived.Test.YtdmcdhkkbkgnbaaGreatQSwQ
import Derived.Test.YtdmcdhkkbkgnbaaGreatQNetSame2
import Derived.Test.YtdmcdhkkbkgnbaaGreatP40
namespace Go.Proofs.YtdmcdhkkbkgnbaaGreat
open Go.ChangeShapes Go.WideShapes Go.ChangeAt Go.RowKit
open Go.Maps (Keyed)
open Go.WideMaps
set_option linter.unusedVariables false
set_option linter.unusedSimpArgs false

variable {w w' W w0 : World} {p n k m : Nat} {F R F' R' : List Nat} {N M : Nt}
def YesK (w : World) (e : Ending) (w' : World) : Prop := e = .returned (.bool true) ∧ Kept [] w w'
/-- no more than there were -/
theorem swept_less (hf : NtFine k N) : gatesX (sweptN N) ≤ gatesX N ∧ (sweptN N).regs.length ≤ N.regs.length := by
  refine (swept_ind hf (fun M => gatesX M ≤ gatesX N ∧ M.regs.length ≤ N.regs.length) ⟨Nat.le_trans (gates_once hf) (reached_le hf), ?_⟩ (fun M hM _ h => ⟨Nat.le_trans (Nat.le_trans (gates_once hM) (reached_le hM)) h.1, ?_⟩)).1
  · rw [once_regs]; exact goingTo_length N _
  · rw [once_regs]
    have := goingTo_length M M.regs.length
    unfold goingL
    omega
theorem stuck_not {r : Rg} (h : stuckR r = false) : r.en ≠ 0 ∧ r.d ≠ r.q ∧ r.d ≠ firstR r := by
  unfold stuckR at h
  simpa [not_or, and_assoc] using h
/-- what the law asks of each register of what is swept -/
theorem swept_each (hf : NtFine k M) (hd : doneN M = true) {j : Nat} (hj : j < M.regs.length) : (neededN M).getD j false = true ∧ stuckR M.regs[j] = false := by
  have h := ((done_iff hf).1 hd).1 j hj
  unfold goesB at h
  rw [Bool.and_eq_true] at h
  have e : M.regs.getD j ⟨0, 0, 0, false⟩ = M.regs[j] := by rw [List.getD_eq_getElem?_getD, List.getElem?_eq_getElem hj]; rfl
  rw [e] at h
  exact ⟨h.1, by simpa using h.2⟩
set_option maxHeartbeats 6400000 in
set_option maxRecDepth 100000 in
theorem sweep_left (o1 o2 : Bool) (sa : Option Addr) (sl : List NStp) (sc len : Nat) (w : World) (hlen : sl.length = len) (hss : SlNStepsC w sa sl) (hso : ∀ s ∈ sl, s.ok) :
    Calls Tryz.prog 4 #[.agg #[.bool o1, .bool o2], .slice sa len sc] w (YesK w) := by
  have HB := Lib.hid (fun (W : World) (hk : Kept [] w W) => built30 o1 o2 sa sl sc len W hlen (fun k hk' => by
    exact (hss.kept0 hk) k hk') hso)
  have HT := Lib.hid (fun (W : World) => tells30 W)
  clear hlen hss hso
  go_enter Tryz.func4, Tryz.ntmps4; (try simp only [List.append])
  go_wp2_with fail
  refine (HB.out _ ((Kept.refl [] w).alloc _)).mono ?_
  intro e w1 hx
  obtain ⟨n, NF, NR, q, F2, R2, he, hx⟩ := hx
  subst he
  have hnet := hx.net
  have K1 := Lib.hid (((Kept.refl [] w).alloc (.cells #[.bool o1, .bool o2] 23)).trans hx.kept)
  have hfine := builtN_fine false o1 o2 sl 60
  generalize builtN false o1 o2 sl 60 = N at *
  have HN1 := Lib.hid hnet
  have HFI := Lib.hid hfine
  have HCK := Lib.hid (check_c hnet hfine (by omega))
  have HAL := Lib.hid (fun (V : World) (hV : Kept [] w1 V) => All_c (hnet.kept0 hV) hfine (by omega))
  clear hx hnet hfine HB
  obtain ⟨cn, hcn⟩ : ∃ c, c = checkN N := ⟨_, rfl⟩
  have HCN := Lib.hid hcn
  rw [← hcn] at HCK HAL
  clear hcn
  go_wp2_with fail
  refine HCK.out.mono ?_
  rintro e w2 ⟨rfl, k2⟩
  have K12 := Lib.hid k2
  have K2 := Lib.hid (K1.out.trans k2)
  clear k2
  by_cases h0 : cn = 0
  case neg =>
    have h1 : ¬ (cn : Int) = 0 := by omega
    go_wp2_with fail
    refine (HT.out _).mono ?_
    rintro e w3 ⟨rfl, k3⟩
    have K3 := Lib.hid (K2.out.trans k3)
    clear k3
    go_wp2_with fail
    go_ret
    exact ⟨rfl, K3.out⟩
  case pos =>
    subst h0
    have hal := HAL.out _ K12.out
    rw [if_pos rfl] at hal
    have HAN := Lib.hid hal
    have HLE := Lib.hid (swept_less HFI.out)
    have SI := Lib.hid (swept_ind HFI.out (fun _ => True) trivial (fun _ _ _ _ => trivial))
    have HSA := Lib.hid (swept_again HFI.out)
    clear hal
    go_wp2_with fail
    refine HAN.out.mono ?_
    rintro e w3 ⟨x, FX, RX, rfl, hx3, k3, hf3⟩
    generalize sweptN N = X at *
    have K3 := Lib.hid (K2.out.trans k3)
    have X3 := Lib.hid hx3
    have N3 := Lib.hid (HN1.out.kept0 (K12.out.trans k3))
    have HFX := Lib.hid SI.out.2.1
    have HZX := Lib.hid SI.out.2.2.1
    have HDX := Lib.hid SI.out.2.2.2.1
    clear k3 hx3 hf3
    obtain ⟨pn, Gn, ian, icn, ran, rcn, oan, ocn, rin, ron, hFn, hRn, hcn⟩ := N3.out
    have HCNN := Lib.hid hcn
    clear hFn hRn hcn
    obtain ⟨px, Gx, ia, ic, ra, rc, oa, oc, ri, ro, hFx, hRx, hcx⟩ := X3.out
    have HCX := Lib.hid hcx
    clear hFx hRx hcx
    have HQC := Lib.hid (fun (V : World) (hV : Kept [] w3 V) => show Calls Tryz.prog 20 #[.pointer (some ⟨x, 0, none⟩)] V (IntIs 0 V) from by
      have h := check_c (X3.out.kept0 hV) HFX.out (by omega)
      rw [HZX.out] at h
      exact h)
    have HGX := Lib.hid (fun (V : World) (hV : Kept [] w3 V) => aig_gates (HCX.out.gr.kept0 hV) (by have := HFX.out.ok.len; omega))
    have HGN := Lib.hid (fun (V : World) (hV : Kept [] w3 V) => aig_gates (HCNN.out.gr.kept0 hV) (by have := HFI.out.ok.len; omega))
    rw [gatesN_X HFX.out] at HGX
    rw [gatesN_X HFI.out] at HGN
    have HBX := Lib.hid (fun (V : World) (hV : Kept [] w3 V) => nbits_c (X3.out.kept0 hV))
    have HBN := Lib.hid (fun (V : World) (hV : Kept [] w3 V) => nbits_c (N3.out.kept0 hV))
    obtain ⟨gx, hgx⟩ : ∃ v, v = gatesX X := ⟨_, rfl⟩
    obtain ⟨gn, hgn⟩ : ∃ v, v = gatesX N := ⟨_, rfl⟩
    obtain ⟨nR, hnR⟩ : ∃ v, v = X.regs.length := ⟨_, rfl⟩
    obtain ⟨nN, hnN⟩ : ∃ v, v = N.regs.length := ⟨_, rfl⟩
    obtain ⟨nO, hnO⟩ : ∃ v, v = X.outb.length := ⟨_, rfl⟩
    have HGV := Lib.hid hgx
    have HNR := Lib.hid hnR
    have HNO := Lib.hid hnO
    rw [← hgx] at HGX HLE
    rw [← hgn] at HGN HLE
    rw [← hnR] at HBX HLE
    rw [← hnN] at HBN HLE
    have hnr : nR ≤ 60 := by rw [hnR]; have := HFX.out.ok.rk; omega
    have hno : nO ≤ 60 := by rw [hnO]; have := HFX.out.ok.ok; omega
    have hl1 : ¬ ((gn : Int) < (gx : Int)) := by have := HLE.out.1; omega
    have hl2 : ¬ ((nN : Int) < (nR : Int)) := by have := HLE.out.2; omega
    have hb1 : decide (gn < gx) = false := by have := HLE.out.1; simp; omega
    have hb2 : decide (nN < nR) = false := by have := HLE.out.2; simp; omega
    have HCL := Lib.hid (fun (V : World) (hV : Kept [] w3 V) => And.intro (hV.cell HCX.out.c0 (by simp)) (hV.cell HCNN.out.c0 (by simp)))
    clear hgx hgn hnR hnN hnO
    go_upto_region 7 with (fail)
    refine wp_region_keptW (by kernel_rfl) ?_
    (go_big_quiet_want; apply Exists.intro; refine ⟨fun V hV => ?_, ?_⟩; rotate_left; go_big_quiet_on; (try simp only [Act.put, List.setIfInBounds_toArray, List.set_cons_zero, List.set_cons_succ]); rotate_right)
    · go_simp
      exact rfl
    (go_big_quiet_want; apply Exists.intro; refine ⟨fun V hV => ?_, ?_⟩; rotate_left; go_big_quiet_on; (try simp only [Act.put, List.setIfInBounds_toArray, List.set_cons_zero, List.set_cons_succ]); rotate_right)
    · go_simp
      exact rfl
    (go_big_quiet_want; apply Exists.intro; refine ⟨fun V hV => ?_, ?_⟩; rotate_left; go_big_quiet_on; (try simp only [Act.put, List.setIfInBounds_toArray, List.set_cons_zero, List.set_cons_succ]); rotate_right)
    · go_simp
      exact rfl
    (go_big_quiet_want; apply Exists.intro; refine ⟨fun V hV => ?_, ?_⟩; rotate_left; go_big_quiet_on; (try simp only [Act.put, List.setIfInBounds_toArray, List.set_cons_zero, List.set_cons_succ]); rotate_right)
    · go_simp
      exact rfl
    (go_big_quiet_want; apply Exists.intro; refine ⟨fun V hV => ?_, ?_⟩; rotate_left; go_big_quiet_on; (try simp only [Act.put, List.setIfInBounds_toArray, List.set_cons_zero, List.set_cons_succ]); rotate_right)
    · go_simp
      exact rfl
    (go_big_quiet_want; apply Exists.intro; refine ⟨fun V hV => ?_, ?_⟩; rotate_left; go_big_quiet_on; (try simp only [Act.put, List.setIfInBounds_toArray, List.set_cons_zero, List.set_cons_succ]); rotate_right)
    · go_simp
      exact rfl
    (go_big_quiet_want; apply Exists.intro; refine ⟨fun V hV => ?_, ?_⟩; rotate_left; go_big_quiet_on; (try simp only [Act.put, List.setIfInBounds_toArray, List.set_cons_zero, List.set_cons_succ]); rotate_right)
    · go_simp
      exact rfl
    (go_big_quiet_want; apply Exists.intro; refine ⟨fun V hV => ?_, ?_⟩; rotate_left; go_big_quiet_on; (try simp only [Act.put, List.setIfInBounds_toArray, List.set_cons_zero, List.set_cons_succ]); rotate_right)
    · go_simp
      exact rfl
    (go_big_quiet_want; apply Exists.intro; refine ⟨fun V hV => ?_, ?_⟩; rotate_left; go_big_quiet_on; (try simp only [Act.put, List.setIfInBounds_toArray, List.set_cons_zero, List.set_cons_succ]); rotate_right)
    · go_simp
      exact rfl
    (go_big_quiet_want; apply Exists.intro; refine ⟨fun V hV => ?_, ?_⟩; rotate_left; go_big_quiet_on; (try simp only [Act.put, List.setIfInBounds_toArray, List.set_cons_zero, List.set_cons_succ]); rotate_right)
    · go_simp
      exact rfl
    (go_big_quiet_want; apply Exists.intro; refine ⟨fun V hV => ?_, ?_⟩; rotate_left; go_big_quiet_on; (try simp only [Act.put, List.setIfInBounds_toArray, List.set_cons_zero, List.set_cons_succ]); rotate_right)
    · obtain ⟨g0, g1⟩ := HCL.out V hV
      go_simp
      exact rfl
    (go_big_quiet_want; apply Exists.intro; refine ⟨fun V hV => ?_, ?_⟩; rotate_left; go_big_quiet_on; (try simp only [Act.put, List.setIfInBounds_toArray, List.set_cons_zero, List.set_cons_succ]); rotate_right)
    · go_simp
      exact rfl
    (go_big_quiet_want; apply Exists.intro; refine ⟨fun V hV => ?_, ?_⟩; rotate_left; go_big_quiet_on; (try simp only [Act.put, List.setIfInBounds_toArray, List.set_cons_zero, List.set_cons_succ]); rotate_right)
    · go_simp
      exact rfl
    (go_big_quiet_want; apply Exists.intro; refine ⟨fun V hV => ?_, ?_⟩; rotate_left; go_big_quiet_on; (try simp only [Act.put, List.setIfInBounds_toArray, List.set_cons_zero, List.set_cons_succ]); rotate_right)
    · go_simp
      exact rfl
    (go_big_quiet_want; apply Exists.intro; refine ⟨fun V hV => ?_, ?_⟩; rotate_left; go_big_quiet_on; (try simp only [Act.put, List.setIfInBounds_toArray, List.set_cons_zero, List.set_cons_succ]); rotate_right)
    · go_simp
      exact rfl
    (go_big_quiet_want; apply Exists.intro; refine ⟨fun V hV => ?_, ?_⟩; rotate_left; go_big_quiet_on; (try simp only [Act.put, List.setIfInBounds_toArray, List.set_cons_zero, List.set_cons_succ]); rotate_right)
    · go_simp
      exact (HQC.out V hV).mono fun e V' h => ⟨h.1, hV.trans h.2⟩
    (go_big_quiet_want; apply Exists.intro; refine ⟨fun V hV => ?_, ?_⟩; rotate_left; go_big_quiet_on; (try simp only [Act.put, List.setIfInBounds_toArray, List.set_cons_zero, List.set_cons_succ]); rotate_right)
    · go_simp
      exact rfl
    (go_big_quiet_want; apply Exists.intro; refine ⟨fun V hV => ?_, ?_⟩; rotate_left; go_big_quiet_on; (try simp only [Act.put, List.setIfInBounds_toArray, List.set_cons_zero, List.set_cons_succ]); rotate_right)
    · go_simp
      exact rfl
    (go_big_quiet_want; apply Exists.intro; refine ⟨fun V hV => ?_, ?_⟩; rotate_left; go_big_quiet_on; (try simp only [Act.put, List.setIfInBounds_toArray, List.set_cons_zero, List.set_cons_succ]); rotate_right)
    · go_simp
      exact rfl
    (go_big_quiet_want; apply Exists.intro; refine ⟨fun V hV => ?_, ?_⟩; rotate_left; go_big_quiet_on; (try simp only [Act.put, List.setIfInBounds_toArray, List.set_cons_zero, List.set_cons_succ]); rotate_right)
    · go_simp
      exact rfl
    (go_big_quiet_want; apply Exists.intro; refine ⟨fun V hV => ?_, ?_⟩; rotate_left; go_big_quiet_on; (try simp only [Act.put, List.setIfInBounds_toArray, List.set_cons_zero, List.set_cons_succ]); rotate_right)
    · go_simp
      exact rfl
    (go_big_quiet_want; apply Exists.intro; refine ⟨fun V hV => ?_, ?_⟩; rotate_left; go_big_quiet_on; (try simp only [Act.put, List.setIfInBounds_toArray, List.set_cons_zero, List.set_cons_succ]); rotate_right)
    · go_simp
      exact rfl
    (go_big_quiet_want; apply Exists.intro; refine ⟨fun V hV => ?_, ?_⟩; rotate_left; go_big_quiet_on; (try simp only [Act.put, List.setIfInBounds_toArray, List.set_cons_zero, List.set_cons_succ]); rotate_right)
    · obtain ⟨g0, g1⟩ := HCL.out V hV
      go_simp
      exact rfl
    (go_big_quiet_want; apply Exists.intro; refine ⟨fun V hV => ?_, ?_⟩; rotate_left; go_big_quiet_on; (try simp only [Act.put, List.setIfInBounds_toArray, List.set_cons_zero, List.set_cons_succ]); rotate_right)
    · go_simp
      exact (HGX.out V hV).mono fun e V' h => ⟨h.1, by obtain ⟨_, j, rfl⟩ := h; exact hV.drewN j⟩
    (go_big_quiet_want; apply Exists.intro; refine ⟨fun V hV => ?_, ?_⟩; rotate_left; go_big_quiet_on; (try simp only [Act.put, List.setIfInBounds_toArray, List.set_cons_zero, List.set_cons_succ]); rotate_right)
    · go_simp
      exact rfl
    (go_big_quiet_want; apply Exists.intro; refine ⟨fun V hV => ?_, ?_⟩; rotate_left; go_big_quiet_on; (try simp only [Act.put, List.setIfInBounds_toArray, List.set_cons_zero, List.set_cons_succ]); rotate_right)
    · go_simp
      exact rfl
    (go_big_quiet_want; apply Exists.intro; refine ⟨fun V hV => ?_, ?_⟩; rotate_left; go_big_quiet_on; (try simp only [Act.put, List.setIfInBounds_toArray, List.set_cons_zero, List.set_cons_succ]); rotate_right)
    · go_simp
      exact rfl
    (go_big_quiet_want; apply Exists.intro; refine ⟨fun V hV => ?_, ?_⟩; rotate_left; go_big_quiet_on; (try simp only [Act.put, List.setIfInBounds_toArray, List.set_cons_zero, List.set_cons_succ]); rotate_right)
    · obtain ⟨g0, g1⟩ := HCL.out V hV
      go_simp
      exact rfl
    (go_big_quiet_want; apply Exists.intro; refine ⟨fun V hV => ?_, ?_⟩; rotate_left; go_big_quiet_on; (try simp only [Act.put, List.setIfInBounds_toArray, List.set_cons_zero, List.set_cons_succ]); rotate_right)
    · go_simp
      exact (HGN.out V hV).mono fun e V' h => ⟨h.1, by obtain ⟨_, j, rfl⟩ := h; exact hV.drewN j⟩
    (go_big_quiet_want; apply Exists.intro; refine ⟨fun V hV => ?_, ?_⟩; rotate_left; go_big_quiet_on; (try simp only [Act.put, List.setIfInBounds_toArray, List.set_cons_zero, List.set_cons_succ]); rotate_right)
    · go_simp
      exact rfl
    (go_big_quiet_want; apply Exists.intro; refine ⟨fun V hV => ?_, ?_⟩; rotate_left; go_big_quiet_on; (try simp only [Act.put, List.setIfInBounds_toArray, List.set_cons_zero, List.set_cons_succ]); rotate_right)
    · go_simp
      exact rfl
    (go_big_quiet_want; apply Exists.intro; refine ⟨fun V hV => ?_, ?_⟩; rotate_left; go_big_quiet_on; (try simp only [Act.put, List.setIfInBounds_toArray, List.set_cons_zero, List.set_cons_succ]); rotate_right)
    · go_simp
      exact rfl
    (go_big_quiet_want; apply Exists.intro; refine ⟨fun V hV => ?_, ?_⟩; rotate_left; go_big_quiet_on; (try simp only [Act.put, List.setIfInBounds_toArray, List.set_cons_zero, List.set_cons_succ]); rotate_right)
    · go_simp
      exact rfl
    (go_big_quiet_want; apply Exists.intro; refine ⟨fun V hV => ?_, ?_⟩; rotate_left; go_big_quiet_on; (try simp only [Act.put, List.setIfInBounds_toArray, List.set_cons_zero, List.set_cons_succ]); rotate_right)
    · go_simp
      exact (HBX.out V hV).mono fun e V' h => ⟨h.1, hV.trans h.2⟩
    (go_big_quiet_want; apply Exists.intro; refine ⟨fun V hV => ?_, ?_⟩; rotate_left; go_big_quiet_on; (try simp only [Act.put, List.setIfInBounds_toArray, List.set_cons_zero, List.set_cons_succ]); rotate_right)
    · go_simp
      exact rfl
    (go_big_quiet_want; apply Exists.intro; refine ⟨fun V hV => ?_, ?_⟩; rotate_left; go_big_quiet_on; (try simp only [Act.put, List.setIfInBounds_toArray, List.set_cons_zero, List.set_cons_succ]); rotate_right)
    · go_simp
      exact (HBN.out V hV).mono fun e V' h => ⟨h.1, hV.trans h.2⟩
    (go_big_quiet_want; apply Exists.intro; refine ⟨fun V hV => ?_, ?_⟩; rotate_left; go_big_quiet_on; (try simp only [Act.put, List.setIfInBounds_toArray, List.set_cons_zero, List.set_cons_succ]); rotate_right)
    · go_simp
      exact rfl
    (go_big_quiet_want; apply Exists.intro; refine ⟨fun V hV => ?_, ?_⟩; rotate_left; go_big_quiet_on; (try simp only [Act.put, List.setIfInBounds_toArray, List.set_cons_zero, List.set_cons_succ]); rotate_right)
    · go_simp
      exact rfl
    refine wpQuiet_nil ?_
    intro w4 k4
    have K4 := Lib.hid k4
    clear k4
    have hnd := Needed_c (X3.out.kept0 K4.out) HFX.out (by omega)
    rw [if_pos HZX.out] at hnd
    have HND := Lib.hid hnd
    clear hl1 hl2 hb1 hb2 hnd HQC HGN HBN HAN HAL HCK
    go_wp2_with fail
    refine HND.out.mono ?_
    rintro e w5 ⟨gd, rfl, ho5, k5, hge5⟩
    have HLN := Lib.hid (needed_length HFX.out)
    rw [HLN.out, ← HNR.out] at ho5 ⊢
    have K5 := Lib.hid (K4.out.trans k5)
    have HO5 := Lib.hid ho5
    have hst := Stuck_c (X3.out.kept0 K5.out) HFX.out (by omega)
    rw [if_pos HZX.out] at hst
    have HST := Lib.hid hst
    clear ho5 k5 hge5 hst
    go_wp2_with fail
    refine HST.out.mono ?_
    rintro e w6 ⟨gs, rfl, ho6, k6, hge6⟩
    have HLM := Lib.hid (show (X.regs.map stuckR).length = nR from by rw [List.length_map, ← HNR.out])
    rw [HLM.out] at ho6 ⊢
    have K6 := Lib.hid (K5.out.trans k6)
    have HO6 := Lib.hid ho6
    have HN6 := Lib.hid (HO5.out.kept0 k6)
    clear ho6 k6 hge6
    go_wp2_with fail
    refine (HBX.out _ K6.out).mono ?_
    rintro e w7 ⟨rfl, k7⟩
    have K7 := Lib.hid (K6.out.trans k7)
    have K67 := Lib.hid k7
    clear k7
    go_wp2_with fail
    refine (HBX.out _ K7.out).mono ?_
    rintro e w8 ⟨rfl, k8⟩
    have K8 := Lib.hid (K7.out.trans k8)
    have HO8 := Lib.hid ((HO6.out.kept0 K67.out).kept0 k8)
    have HN8 := Lib.hid ((HN6.out.kept0 K67.out).kept0 k8)
    have c4 := K8.out.cell HCX.out.c4 (by simp)
    rw [← HNO.out] at c4
    have HRL := Lib.hid (show ro.length = nO from by rw [HNO.out, ← HCX.out.ob.is]; simp)
    clear k8 HO5 HO6 HN6 K67 HBX
    go_wp2_with fail
    clear c4
    go_loopw [13, 118] (fun v i wr => ∃ (m : Nat) (a : Option Addr) (c : Nat), m ≤ nO ∧ i = .int .i64 m ∧ v = .slice a (outsTo X m).length c ∧ Own wr 61 a (outsTo X m).length c (nats .u32 (outsTo X m)) ∧ Kept [] w8 wr ∧ ∀ b ∈ ft a, w8.heap.size ≤ b) (fun _ i _ => nO - (intOf i).toNat)
    case atStart => exact ⟨0, none, 0, Nat.zero_le _, rfl, rfl, Own.nil _ _, .refl _ _, by simp [ft]⟩
    case round =>
      obtain ⟨m, a, c, hm, rfl, rfl, ho, hkr, hfa⟩ := hrel
      have HO := Lib.hid ho
      have KR := Lib.hid hkr
      have FA := Lib.hid hfa
      have K8R := Lib.hid (K8.out.trans hkr)
      clear ho hkr hfa
      by_cases hlt : m < nO
      · have hml : m < ro.length := by rw [HRL.out]; exact hlt
        obtain ⟨gb, rfl, x0, x1⟩ := (HCX.out.ob.slb.kept0 K8R.out) m hml
        have hrow := (HCX.out.ob.rows _ (List.getElem_mem hml)).1.kept0 K8R.out
        have hbo : X.outb[m]? = some ro[m].b := by rw [← HCX.out.ob.is, List.getElem?_map, List.getElem?_eq_getElem hml]; rfl
        have hT := outsTo_succ hbo
        have hol := HFX.out.ok.ol _ (List.mem_of_getElem? hbo)
        have hl64 := hol.2.1
        have hl1 := hol.1
        have hlen := outsTo_len HFX.out m
        clear hbo hol
        generalize ro[m] = r at *
        obtain ⟨⟨nm, lits⟩, ra2, rc2⟩ := r
        simp only at x0 x1 hrow hT hl64 hl1
        obtain ⟨ad, had⟩ : ∃ ad, ra2 = some ad := by
          obtain ⟨ad, h, _⟩ := hrow 0 hl1
          exact ⟨ad, h⟩
        subst had
        obtain ⟨ln, hln⟩ : ∃ ln, ln = lits.length := ⟨_, rfl⟩
        obtain ⟨ol, hol⟩ : ∃ ol, ol = (outsTo X m).length := ⟨_, rfl⟩
        have HLN2 := Lib.hid hln
        have HOL := Lib.hid hol
        rw [← hln] at x1 hl64
        rw [← hol] at hlen
        have ho2 := HO.out
        rw [← hol] at ho2
        have HO2 := Lib.hid (fun o => own_kept (w := wr) ho2 ((Kept.refl [] wr).alloc o) (by simp))
        have HCL2 := Lib.hid (show ∀ o j u, (nats .u32 lits)[j]? = some u → (wr.alloc o).cell? (ad.add j) = some u from fun o j u hu => by
          have hj : j < lits.length := by
            have := (List.getElem?_eq_some_iff.1 hu).1
            rwa [nats_length] at this
          obtain ⟨ad2, h1, h2⟩ := hrow j hj
          injection h1 with h1
          subst h1
          have e : u = .int .u32 (lits[j] : Nat) := by
            have := (List.getElem?_eq_some_iff.1 hu).2
            rw [← this]
            simp [nats]
          rw [e]
          exact cell_alloc h2 _)
        have HTT := Lib.hid hT
        rw [← hol]
        clear hrow hT hln hol ho2 hl1
        go_wp2_with (at_builtin; refine wpList_cat (news := nats .u32 lits) rfl rfl Tryz.underlying58 lit_info rfl (by omega) rfl rfl (HO2.out _) (by rw [nats_length, HLN2.out, Nat.mul_one]) (HCL2.out _) (by intro u hu; simp [nats] at hu; obtain ⟨_, _, rfl⟩ := hu; rfl) (by unfold maxLen; omega) (by omega) ?_; intro a5 c5 w5 hown5 hst5)
        have KA := Lib.hid (show Kept [] w8 _ from KR.out.alloc (.cells #[.string nm, .slice (some ad) ln rc2] 60))
        have hlen2 : (outsTo X (m + 1)).length = ol + ln := by rw [HTT.out, List.length_append, ← HOL.out, ← HLN2.out]
        refine ⟨⟨m + 1, a5, c5, by omega, by go_num, by rw [hlen2], ?_, kept_up KA.out hst5.kept FA.out, fun b hb => ?_⟩, by simp [intOf]; omega⟩
        · rw [hlen2, HTT.out, show nats .u32 (outsTo X m ++ lits) = nats .u32 (outsTo X m) ++ nats .u32 lits from by simp [nats]]
          exact hown5
        · rcases hst5.fresh b hb with h | h
          · exact FA.out b h
          · exact Nat.le_trans KA.out.size h
      · obtain rfl : m = nO := by omega
        have HTE := Lib.hid (show outsTo X m = leantTo X 0 from by rw [HNO.out, outsTo_all]; simp [leantTo])
        rw [HTE.out] at HO ⊢
        obtain ⟨w9, hw9⟩ : ∃ v : World, v = wr := ⟨_, rfl⟩
        rw [← hw9] at HO KR K8R ⊢
        clear hw9
        have c3 := K8R.out.cell HCX.out.c3 (by simp)
        rw [← HNR.out] at c3
        go_wp2_with fail
        clear c3
        go_loopw [13, 132] (fun v i wr => ∃ (m : Nat) (a : Option Addr) (c : Nat), m ≤ nR ∧ i = .int .i64 m ∧ v = .slice a (leantTo X m).length c ∧ Own wr 61 a (leantTo X m).length c (nats .u32 (leantTo X m)) ∧ Kept [] w8 wr ∧ ∀ b ∈ ft a, w8.heap.size ≤ b) (fun _ i _ => nR - (intOf i).toNat)
        case atStart => exact ⟨0, a, c, Nat.zero_le _, rfl, rfl, HO.out, KR.out, FA.out⟩
        case round =>
          obtain ⟨j, a3, c3, hj, rfl, rfl, ho3, hkr3, hfa3⟩ := hrel
          have HO3 := Lib.hid ho3
          have KR3 := Lib.hid hkr3
          have FA3 := Lib.hid hfa3
          have K8R3 := Lib.hid (K8.out.trans hkr3)
          have HLL := Lib.hid (leantTo_len HFX.out j)
          clear ho3 hkr3 hfa3
          by_cases hlt2 : j < nR
          · have hjl : j < X.regs.length := by rw [← HNR.out]; exact hlt2
            obtain ⟨gr, rfl, e0, e1, e2, e3⟩ := ((regs_sl (l := X.regs) rfl HCX.out.rb).kept0 K8R3.out) j hjl
            have HT2 := Lib.hid (leantTo_succ (List.getElem?_eq_getElem hjl))
            have hea := swept_each HFX.out HDX.out hjl
            have cnd := own_cell_b (HN8.out.kept0 KR3.out) j (by rw [HLN.out]; exact hjl)
            rw [hea.1] at cnd
            have hsn : (X.regs.map stuckR).getD j false = false := by
              rw [List.getD_eq_getElem?_getD, List.getElem?_map, List.getElem?_eq_getElem hjl]
              exact hea.2
            have cst := own_cell_b (HO8.out.kept0 KR3.out) j (by rw [List.length_map]; exact hjl)
            rw [hsn] at cst
            have hnot := stuck_not hea.2
            generalize X.regs[j] = r at *
            obtain ⟨q, d, en, init⟩ := r
            simp only at e0 e1 e2 e3 HT2 hnot
            have HIF := Lib.hid (fun V => lit_if 0 init V (by omega))
            rw [ifL_first ⟨q, d, en, init⟩] at HIF
            obtain ⟨fr, hfr⟩ : ∃ v, v = firstR ⟨q, d, en, init⟩ := ⟨_, rfl⟩
            rw [← hfr] at HIF hnot
            have b1 : ((en : Int) == 0) = false := by have := hnot.1; simp; omega
            have b2 : ((d : Int) == (q : Int)) = false := by have := hnot.2.1; simp; omega
            have b3 : ((d : Int) == (fr : Int)) = false := by have := hnot.2.2; simp; omega
            obtain ⟨ol, hol⟩ : ∃ ol, ol = (leantTo X j).length := ⟨_, rfl⟩
            have HOL := Lib.hid hol
            rw [← hol] at HO3 HLL ⊢
            have hol2 : ol ≤ 3960 := by have := HLL.out; omega
            have m0 : (0 : Int) ≤ (j : Int) := by omega
            have m1 : (j : Int) < (nR : Int) := by omega
            clear hol hfr hnot hea hsn hjl
            go_upto_region 22 with (fail)
            obtain ⟨w5, hw5⟩ : ∃ v, v = wr.alloc (.cells #[.int .u32 (q : Int), .int .u32 (d : Int), .int .u32 (en : Int), .bool init] 63) := ⟨_, rfl⟩
            obtain ⟨b5, hb5⟩ : ∃ v, v = wr.heap.size := ⟨_, rfl⟩
            have K5 := Lib.hid (show Kept [] wr w5 from by rw [hw5]; exact (Kept.refl [] wr).alloc _)
            have hbl : w5.heap[b5]? = some (.cells #[.int .u32 (q : Int), .int .u32 (d : Int), .int .u32 (en : Int), .bool init] 63 (0, 0)) := by rw [hw5, hb5]; exact heap_alloc_new wr _
            rw [← hw5, ← hb5]
            have HCL3 := Lib.hid (fun (V : World) (hV : Kept [] w5 V) => show V.cell? ⟨gd, j, none⟩ = some (.bool true) ∧ V.cell? ⟨gs, j, none⟩ = some (.bool false) ∧ V.cell? ⟨b5, 0, none⟩ = some (.int .u32 (q : Int)) ∧ V.cell? ⟨b5, 1, none⟩ = some (.int .u32 (d : Int)) ∧ V.cell? ⟨b5, 2, none⟩ = some (.int .u32 (en : Int)) ∧ V.cell? ⟨b5, 3, none⟩ = some (.bool init) from
              ⟨(K5.out.trans hV).cell cnd (by simp), (K5.out.trans hV).cell cst (by simp), hV.cell (blk_cell hbl 0) (by simp), hV.cell (blk_cell hbl 1) (by simp), hV.cell (blk_cell hbl 2) (by simp), hV.cell (blk_cell hbl 3) (by simp)⟩)
            clear hw5 hb5 hbl e0 e1 e2 e3 cnd cst
            refine wp_region_keptW (by kernel_rfl) ?_
            (go_big_quiet_want; apply Exists.intro; refine ⟨fun V hV => ?_, ?_⟩; rotate_left; go_big_quiet_on; (try simp only [Act.put, List.setIfInBounds_toArray, List.set_cons_zero, List.set_cons_succ]); rotate_right)
            · go_simp
              exact rfl
            (go_big_quiet_want; apply Exists.intro; refine ⟨fun V hV => ?_, ?_⟩; rotate_left; go_big_quiet_on; (try simp only [Act.put, List.setIfInBounds_toArray, List.set_cons_zero, List.set_cons_succ]); rotate_right)
            · go_simp
              exact rfl
            (go_big_quiet_want; apply Exists.intro; refine ⟨fun V hV => ?_, ?_⟩; rotate_left; go_big_quiet_on; (try simp only [Act.put, List.setIfInBounds_toArray, List.set_cons_zero, List.set_cons_succ]); rotate_right)
            · go_simp
              exact rfl
            (go_big_quiet_want; apply Exists.intro; refine ⟨fun V hV => ?_, ?_⟩; rotate_left; go_big_quiet_on; (try simp only [Act.put, List.setIfInBounds_toArray, List.set_cons_zero, List.set_cons_succ]); rotate_right)
            · obtain ⟨g0, g1, g2, g3, g4, g5⟩ := HCL3.out V hV
              go_simp
              exact rfl
            (go_big_quiet_want; apply Exists.intro; refine ⟨fun V hV => ?_, ?_⟩; rotate_left; go_big_quiet_on; (try simp only [Act.put, List.setIfInBounds_toArray, List.set_cons_zero, List.set_cons_succ]); rotate_right)
            · go_simp
              exact rfl
            (go_big_quiet_want; apply Exists.intro; refine ⟨fun V hV => ?_, ?_⟩; rotate_left; go_big_quiet_on; (try simp only [Act.put, List.setIfInBounds_toArray, List.set_cons_zero, List.set_cons_succ]); rotate_right)
            · go_simp
              exact rfl
            (go_big_quiet_want; apply Exists.intro; refine ⟨fun V hV => ?_, ?_⟩; rotate_left; go_big_quiet_on; (try simp only [Act.put, List.setIfInBounds_toArray, List.set_cons_zero, List.set_cons_succ]); rotate_right)
            · go_simp
              exact rfl
            (go_big_quiet_want; apply Exists.intro; refine ⟨fun V hV => ?_, ?_⟩; rotate_left; go_big_quiet_on; (try simp only [Act.put, List.setIfInBounds_toArray, List.set_cons_zero, List.set_cons_succ]); rotate_right)
            · go_simp
              exact rfl
            (go_big_quiet_want; apply Exists.intro; refine ⟨fun V hV => ?_, ?_⟩; rotate_left; go_big_quiet_on; (try simp only [Act.put, List.setIfInBounds_toArray, List.set_cons_zero, List.set_cons_succ]); rotate_right)
            · go_simp
              exact rfl
            (go_big_quiet_want; apply Exists.intro; refine ⟨fun V hV => ?_, ?_⟩; rotate_left; go_big_quiet_on; (try simp only [Act.put, List.setIfInBounds_toArray, List.set_cons_zero, List.set_cons_succ]); rotate_right)
            · obtain ⟨g0, g1, g2, g3, g4, g5⟩ := HCL3.out V hV
              go_simp
              exact rfl
            (go_big_quiet_want; apply Exists.intro; refine ⟨fun V hV => ?_, ?_⟩; rotate_left; go_big_quiet_on; (try simp only [Act.put, List.setIfInBounds_toArray, List.set_cons_zero, List.set_cons_succ]); rotate_right)
            · go_simp
              exact rfl
            (go_big_quiet_want; apply Exists.intro; refine ⟨fun V hV => ?_, ?_⟩; rotate_left; go_big_quiet_on; (try simp only [Act.put, List.setIfInBounds_toArray, List.set_cons_zero, List.set_cons_succ]); rotate_right)
            · go_simp
              exact rfl
            (go_big_quiet_want; apply Exists.intro; refine ⟨fun V hV => ?_, ?_⟩; rotate_left; go_big_quiet_on; (try simp only [Act.put, List.setIfInBounds_toArray, List.set_cons_zero, List.set_cons_succ]); rotate_right)
            · go_simp
              exact rfl
            (go_big_quiet_want; apply Exists.intro; refine ⟨fun V hV => ?_, ?_⟩; rotate_left; go_big_quiet_on; (try simp only [Act.put, List.setIfInBounds_toArray, List.set_cons_zero, List.set_cons_succ]); rotate_right)
            · obtain ⟨g0, g1, g2, g3, g4, g5⟩ := HCL3.out V hV
              go_simp
              exact rfl
            (go_big_quiet_want; apply Exists.intro; refine ⟨fun V hV => ?_, ?_⟩; rotate_left; go_big_quiet_on; (try simp only [Act.put, List.setIfInBounds_toArray, List.set_cons_zero, List.set_cons_succ]); rotate_right)
            · go_simp
              exact rfl
            (go_big_quiet_want; apply Exists.intro; refine ⟨fun V hV => ?_, ?_⟩; rotate_left; go_big_quiet_on; (try simp only [Act.put, List.setIfInBounds_toArray, List.set_cons_zero, List.set_cons_succ]); rotate_right)
            · go_simp
              exact rfl
            (go_big_quiet_want; apply Exists.intro; refine ⟨fun V hV => ?_, ?_⟩; rotate_left; go_big_quiet_on; (try simp only [Act.put, List.setIfInBounds_toArray, List.set_cons_zero, List.set_cons_succ]); rotate_right)
            · go_simp
              exact rfl
            (go_big_quiet_want; apply Exists.intro; refine ⟨fun V hV => ?_, ?_⟩; rotate_left; go_big_quiet_on; (try simp only [Act.put, List.setIfInBounds_toArray, List.set_cons_zero, List.set_cons_succ]); rotate_right)
            · go_simp
              exact rfl
            (go_big_quiet_want; apply Exists.intro; refine ⟨fun V hV => ?_, ?_⟩; rotate_left; go_big_quiet_on; (try simp only [Act.put, List.setIfInBounds_toArray, List.set_cons_zero, List.set_cons_succ]); rotate_right)
            · obtain ⟨g0, g1, g2, g3, g4, g5⟩ := HCL3.out V hV
              go_simp
              exact rfl
            (go_big_quiet_want; apply Exists.intro; refine ⟨fun V hV => ?_, ?_⟩; rotate_left; go_big_quiet_on; (try simp only [Act.put, List.setIfInBounds_toArray, List.set_cons_zero, List.set_cons_succ]); rotate_right)
            · go_simp
              exact rfl
            (go_big_quiet_want; apply Exists.intro; refine ⟨fun V hV => ?_, ?_⟩; rotate_left; go_big_quiet_on; (try simp only [Act.put, List.setIfInBounds_toArray, List.set_cons_zero, List.set_cons_succ]); rotate_right)
            · obtain ⟨g0, g1, g2, g3, g4, g5⟩ := HCL3.out V hV
              go_simp
              exact rfl
            (go_big_quiet_want; apply Exists.intro; refine ⟨fun V hV => ?_, ?_⟩; rotate_left; go_big_quiet_on; (try simp only [Act.put, List.setIfInBounds_toArray, List.set_cons_zero, List.set_cons_succ]); rotate_right)
            · go_simp
              exact rfl
            (go_big_quiet_want; apply Exists.intro; refine ⟨fun V hV => ?_, ?_⟩; rotate_left; go_big_quiet_on; (try simp only [Act.put, List.setIfInBounds_toArray, List.set_cons_zero, List.set_cons_succ]); rotate_right)
            · go_simp
              exact rfl
            (go_big_quiet_want; apply Exists.intro; refine ⟨fun V hV => ?_, ?_⟩; rotate_left; go_big_quiet_on; (try simp only [Act.put, List.setIfInBounds_toArray, List.set_cons_zero, List.set_cons_succ]); rotate_right)
            · go_simp
              exact rfl
            (go_big_quiet_want; apply Exists.intro; refine ⟨fun V hV => ?_, ?_⟩; rotate_left; go_big_quiet_on; (try simp only [Act.put, List.setIfInBounds_toArray, List.set_cons_zero, List.set_cons_succ]); rotate_right)
            · go_simp
              exact rfl
            (go_big_quiet_want; apply Exists.intro; refine ⟨fun V hV => ?_, ?_⟩; rotate_left; go_big_quiet_on; (try simp only [Act.put, List.setIfInBounds_toArray, List.set_cons_zero, List.set_cons_succ]); rotate_right)
            · obtain ⟨g0, g1, g2, g3, g4, g5⟩ := HCL3.out V hV
              go_simp
              exact rfl
            (go_big_quiet_want; apply Exists.intro; refine ⟨fun V hV => ?_, ?_⟩; rotate_left; go_big_quiet_on; (try simp only [Act.put, List.setIfInBounds_toArray, List.set_cons_zero, List.set_cons_succ]); rotate_right)
            · go_simp
              exact rfl
            (go_big_quiet_want; apply Exists.intro; refine ⟨fun V hV => ?_, ?_⟩; rotate_left; go_big_quiet_on; (try simp only [Act.put, List.setIfInBounds_toArray, List.set_cons_zero, List.set_cons_succ]); rotate_right)
            · obtain ⟨g0, g1, g2, g3, g4, g5⟩ := HCL3.out V hV
              go_simp
              exact rfl
            (go_big_quiet_want; apply Exists.intro; refine ⟨fun V hV => ?_, ?_⟩; rotate_left; go_big_quiet_on; (try simp only [Act.put, List.setIfInBounds_toArray, List.set_cons_zero, List.set_cons_succ]); rotate_right)
            · go_simp
              exact (HIF.out V).mono fun e V' h => ⟨h.1, by obtain ⟨_, rfl⟩ := h; exact hV⟩
            (go_big_quiet_want; apply Exists.intro; refine ⟨fun V hV => ?_, ?_⟩; rotate_left; go_big_quiet_on; (try simp only [Act.put, List.setIfInBounds_toArray, List.set_cons_zero, List.set_cons_succ]); rotate_right)
            · go_simp
              exact rfl
            (go_big_quiet_want; apply Exists.intro; refine ⟨fun V hV => ?_, ?_⟩; rotate_left; go_big_quiet_on; (try simp only [Act.put, List.setIfInBounds_toArray, List.set_cons_zero, List.set_cons_succ]); rotate_right)
            · go_simp
              exact rfl
            refine wpQuiet_nil ?_
            intro w6 k6
            have K6 := Lib.hid (K5.out.trans k6)
            obtain ⟨g0, g1, g2, g3, g4, g5⟩ := HCL3.out w6 k6
            have K7 := Lib.hid (K6.out.alloc (.cells #[.int .u32 (d : Int), .int .u32 (en : Int)] 61))
            have HO7 := Lib.hid (HO3.out.kept0 K7.out)
            clear k6 g0 g1 g2 g5 b1 b2 b3
            go_wp2_with (at_builtin; refine wpList_cat (news := [.int .u32 (d : Int), .int .u32 (en : Int)]) rfl rfl Tryz.underlying58 lit_info rfl (by omega) rfl rfl HO7.out rfl (news_blk (t := 61) (heap_alloc_new _ _)) (by simp [Value.oneCell']) (by unfold maxLen; omega) (by omega) ?_; intro a7 c7 w7 hown7 hst7)
            have hlen2 : (leantTo X (j + 1)).length = ol + 2 := by rw [HT2.out, List.length_append, ← HOL.out]; rfl
            have HOW7 := Lib.hid hown7
            have HKU := Lib.hid (kept_up (KR3.out.trans K7.out) hst7.kept FA3.out)
            have HFR := Lib.hid (show ∀ b ∈ ft a7, w8.heap.size ≤ b from fun b hb => by
              rcases hst7.fresh b hb with h | h
              · exact FA3.out b h
              · exact Nat.le_trans (KR3.out.trans K7.out).size h)
            have HL2 := Lib.hid hlen2
            clear hown7 hst7 hlen2
            go_wp2_with fail
            go_roundw
            case rel => exact ⟨j + 1, a7, c7, by omega, by go_num, by rw [HL2.out], by rw [HL2.out, HT2.out, show nats .u32 (leantTo X j ++ [d, en]) = nats .u32 (leantTo X j) ++ [.int .u32 (d : Int), .int .u32 (en : Int)] from by simp [nats]]; exact HOW7.out, HKU.out, HFR.out⟩
            case measure => simp [intOf]; omega
          · obtain rfl : j = nR := by omega
            have HE := Lib.hid (show leantTo X j = leantN X from by rw [HNR.out]; exact leantTo_all X)
            rw [HE.out] at HO3 HLL ⊢
            have HRC := Lib.hid (cone_reach (HCX.out.gr.kept0 K8R3.out) (by have := HFX.out.ok.len; omega) a3 c3 (leantN X).length (leantN X) rfl (by have := HLL.out; omega) HO3.out.sln (leant_ok HFX.out))
            obtain ⟨ll, hll⟩ : ∃ x, x = (leantN X).length := ⟨_, rfl⟩
            rw [← hll] at HRC ⊢
            have c0 := K8R3.out.cell HCX.out.c0 (by simp)
            clear hll
            go_wp2_with fail
            refine HRC.out.mono ?_
            rintro e w5 ⟨a5, c5, n5, rfl, ho5, k5⟩
            have hn5 : n5 = (reachL X.g.nodes (leantN X)).length := by have := ho5.len; rw [nats_length] at this; omega
            have K5 := Lib.hid (K8R3.out.trans k5)
            have HO5 := Lib.hid ho5
            have HN5 := Lib.hid hn5
            have hn52 : n5 ≤ 38401 := by
              rw [hn5]
              have h1 : (reachL X.g.nodes (leantN X)).length ≤ X.g.nodes.length := pick_length _ _
              have := HFX.out.ok.len
              omega
            have HRLT := Lib.hid (show ∀ x ∈ reachL X.g.nodes (leantN X), x < X.g.nodes.length from fun x hx => by
              unfold reachL pick at hx
              exact List.mem_range.1 (List.mem_filter.1 hx).1)
            clear k5 ho5 hn5 c0
            go_wp2_with fail
            go_loopw [20, 187] (fun v i wr => ∃ j : Nat, j ≤ n5 ∧ i = .int .i64 j ∧ v = .int .i64 (reachTo X j : Nat) ∧ reachTo X j ≤ j ∧ Kept [] w5 wr) (fun _ i _ => n5 - (intOf i).toNat)
            case atStart => exact ⟨0, Nat.zero_le _, rfl, by simp [reachTo], by simp [reachTo], .refl _ _⟩
            case round =>
              obtain ⟨i, hi, rfl, rfl, hle, hk5⟩ := hrel
              have KK := Lib.hid hk5
              clear hk5
              by_cases hlt4 : i < n5
              · have hil : i < (reachL X.g.nodes (leantN X)).length := by rw [← HN5.out]; exact hlt4
                obtain ⟨ad, rfl, hcx⟩ := (HO5.out.sln.kept0 KK.out) i hil
                have HXX := HRLT.out _ (List.getElem_mem hil)
                have HSU := Lib.hid (show reachTo X (i + 1) = reachTo X i + (if gAt X.g.nodes (reachL X.g.nodes (leantN X))[i] then 1 else 0) from by
                  unfold reachTo
                  rw [List.take_succ_eq_append_getElem hil, List.filter_append, List.length_append]
                  congr 1
                  cases h : gAt X.g.nodes (reachL X.g.nodes (leantN X))[i] <;> simp [h])
                have HGA := Lib.hid (gateA_at HXX)
                generalize (reachL X.g.nodes (leantN X))[i] = y at *
                have HGC := Lib.hid (aig_gateOf (HCX.out.gr.kept0 (K5.out.trans KK.out)) (by have := HFX.out.ok.len; omega) (y : Int) (by have := HFX.out.ok.len; omega) (by have := HFX.out.ok.len; omega))
                have c0 := (K5.out.trans KK.out).cell HCX.out.c0 (by simp)
                rw [← HGA.out] at HSU
                generalize gateA X.g (y : Int) = r at *
                obtain ⟨y1, z1, b⟩ := r
                simp only at HSU HGC
                obtain ⟨rj, hrj⟩ : ∃ v, v = reachTo X i := ⟨_, rfl⟩
                rw [← hrj] at HSU hle ⊢
                have j0 : (0 : Int) ≤ (i : Int) := by omega
                have j1 : (i : Int) < (n5 : Int) := by omega
                clear hrj hil HXX HGA
                go_wp2_with fail
                refine HGC.out.mono ?_
                rintro e w6 ⟨rfl, k6⟩
                have K6 := Lib.hid (KK.out.trans k6)
                clear k6 c0 hcx
                cases b with
                | true =>
                  go_wp2_with fail
                  go_roundw
                  case rel => exact ⟨i + 1, by omega, by go_num, by rw [HSU.out]; go_num, by rw [HSU.out]; simp; omega, K6.out⟩
                  case measure => simp [intOf]; omega
                | false =>
                  go_wp2_with fail
                  go_roundw
                  case rel => exact ⟨i + 1, by omega, by go_num, by rw [HSU.out]; rfl, by rw [HSU.out]; simp; omega, K6.out⟩
                  case measure => simp [intOf]; omega
              · obtain rfl : i = n5 := by omega
                have HE2 := Lib.hid (show reachTo X i = gx from by
                  rw [HN5.out, reachTo_all, HGV.out]
                  exact ((done_iff HFX.out).1 HDX.out).2)
                rw [HE2.out]
                have KW := Lib.hid (K5.out.trans KK.out)
                have hal := All_c (X3.out.kept0 KW.out) HFX.out (by omega)
                rw [if_pos HZX.out] at hal
                have HAN := Lib.hid hal
                clear hal hle
                go_wp2_with fail
                refine HAN.out.mono ?_
                rintro e w6 ⟨y, FY, RY, rfl, hy6, k6, hf6⟩
                rw [HSA.out] at hy6
                have Y6 := Lib.hid hy6
                have K6 := Lib.hid (KW.out.trans k6)
                obtain ⟨py, hpy⟩ := hy6.graphC
                have c0 := K6.out.cell HCX.out.c0 (by simp)
                clear hy6 k6 hf6
                go_wp2_with fail
                refine (HGX.out _ K6.out).mono ?_
                rintro e w7 ⟨rfl, d7, h7⟩
                have K67 := Lib.hid (show Kept [] w6 w7 from by rw [h7]; exact (Kept.refl [] w6).drewN d7)
                have K7 := Lib.hid (K6.out.trans K67.out)
                clear h7 hpy c0
                go_wp2_with fail
                refine (net_same (Y6.out.kept0 K67.out) (X3.out.kept0 K7.out) ⟨by have := HFX.out.ok.len; omega, by have := HFX.out.ok.ik; omega, by have := HFX.out.ok.rk; omega, by have := HFX.out.ok.ok; omega⟩ (fun b hb => by have := HFX.out.ok.il b hb; omega) (fun b hb => by have := HFX.out.ok.ol b hb; omega)).mono ?_
                rintro e w8' ⟨rfl, k8⟩
                have K8' := Lib.hid (K7.out.trans k8)
                clear k8
                go_wp2_with fail
                refine (HT.out _).mono ?_
                rintro e w9' ⟨rfl, k9⟩
                have K9' := Lib.hid ((K3.out.trans K8'.out).trans k9)
                clear k9
                go_wp2_with fail
                go_ret
                exact ⟨rfl, K9'.out⟩
end Go.Proofs.YtdmcdhkkbkgnbaaGreat
