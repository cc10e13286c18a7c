/-
  Package sweep: swept again and again.
-/
import Derived.Test.YtdmcdhkkbkgnbaaP41
import Derived.BigRegion
import Derived.BigQuiet
namespace Go.Proofs.Ytdmcdhkkbkgnbaa
open Go.ChangeShapes Go.WideShapes Go.ChangeAt Go.RowKit
open Go.Maps (Keyed)
open Go.WideMaps
set_option linter.unusedVariables false
set_option linter.unusedSimpArgs false

variable {w w' W w0 : World} {p n n' k m s mp gd fb : Nat} {F R S F' R' F'' R'' : List Nat} {g : Gr} {N M M' : Nt}
theorem wp_region_keptW {id : Nat} {Q : Exit → Act → World → Prop} {a : Act} {w : World} {l : List Oper} (hB : Region.lexB .any l.toArray = true)
    (h : wpQuiet Try.prog l.toArray (fun V => Kept [] w V) (fun a' => ∀ w', Kept [] w w' → Q .normal a' w') l a) : (Code.region id l.toArray true).wp Try.prog Q a w :=
  wp_region_quiet (C := fun V => Kept [] w V) (by kernel_rfl) hB (Kept.refl [] w).drew (by simpa using h)
theorem gatesN_X (hf : NtFine k M) : gatesN M.g = ((gatesX M : Nat) : Int) := by
  have h := pick_ins M.g.nodes [] M.g.nodes.length (Nat.le_refl _)
  rw [List.take_length] at h
  have hp := hf.ok.wf.pos
  unfold gatesN gatesX
  omega
def AllNew (N : Nt) (w : World) (e : Ending) (w' : World) : Prop := ∃ n' F' R', e = .returned (.tuple #[.pointer (some ⟨n', 0, none⟩), .int .i64 0]) ∧ NetAt w' n' F' R' (sweptN N) ∧ Kept [] w w' ∧ ∀ b ∈ F' ++ R', w.heap.size ≤ b
set_option maxHeartbeats 6400000 in
set_option maxRecDepth 100000 in
theorem All_c (h : NetAt w n F R N) (hf : NtFine k N) (hk : k ≤ 600) : Calls Try.prog 4 #[.pointer (some ⟨n, 0, none⟩)] w (if checkN N = 0 then AllNew N w else NetNone (checkN N) w) := by
  have HH := Lib.hid h
  have HF := Lib.hid hf
  obtain ⟨cn, hcn⟩ : ∃ c, c = checkN N := ⟨_, rfl⟩
  have HCN := Lib.hid hcn
  rw [← hcn]
  clear h hf hcn
  by_cases h0 : cn = 0
  · rw [if_pos h0]
    subst h0
    go_enter Try.func4, Try.ntmps4
    go_wp2_with fail
    go_loopg [0] (sizeN (onceN N) + 1) (fun gf v wr => ∃ (n1 : Nat) (F1 R1 : List Nat) (N1 : Nt), v = .pointer (some ⟨n1, 0, none⟩) ∧ NetAt wr n1 F1 R1 N1 ∧ NtFine k N1 ∧ checkN N1 = 0 ∧ sweptN N1 = sweptN N ∧ sizeN (onceN N1) < gf ∧ Kept [] w wr)
    case atStart => exact ⟨n, F, R, N, rfl, HH.out, HF.out, HCN.out.symm, rfl, Nat.lt_succ_self _, .refl _ _⟩
    case round =>
      obtain ⟨n1, F1, R1, N1, rfl, hn1, hf1, hz1, hs1, hlt1, hk1⟩ := hrel
      obtain ⟨g', rfl⟩ : ∃ g', gk = g' + 1 := ⟨gk - 1, by omega⟩
      have HF1 := Lib.hid hf1
      have HS1 := Lib.hid hs1
      have HL1 := Lib.hid hlt1
      have KR := Lib.hid hk1
      have hon := Once_c hn1 hf1 hk
      rw [if_pos hz1] at hon
      have HON := Lib.hid hon
      have HFN := Lib.hid (once_fine hf1)
      have HST := Lib.hid (swept_step hf1)
      have HSZ := Lib.hid (fun hd => size_lt (once_fine hf1).1 hd)
      clear hn1 hf1 hz1 hs1 hlt1 hk1 hon
      go_wp2_with fail
      refine HON.out.mono ?_
      rintro e w1 ⟨n2, F2, R2, rfl, hn2, k2, hf2⟩
      generalize onceN N1 = M at *
      have K2 := Lib.hid (KR.out.trans k2)
      have N2 := Lib.hid hn2
      have HFR := Lib.hid (show ∀ b ∈ F2 ++ R2, w.heap.size ≤ b from fun b hb => Nat.le_trans KR.out.size (hf2 b hb))
      have hnd := Needed_c hn2 HFN.out.1 (by omega)
      rw [if_pos HFN.out.2] at hnd
      have HND := Lib.hid hnd
      clear hn2 k2 hf2 hnd
      go_wp2_with fail
      refine HND.out.mono ?_
      rintro e w3 ⟨gd, rfl, ho3, k3, hge3⟩
      have K3 := Lib.hid (K2.out.trans k3)
      have N3 := Lib.hid (N2.out.kept0 k3)
      have HO3 := Lib.hid ho3
      have hnl := needed_length HFN.out.1
      rw [hnl] at ho3 ⊢
      have HO3 := Lib.hid ho3
      obtain ⟨pp, G, ia, ic, ra, rc, oa, oc, ri, ro, hFe, hRe, hc⟩ := N3.out
      have c0 := hc.c0
      have c3 := hc.c3
      have hnr : M.regs.length ≤ 600 := by have := HFN.out.1.ok.rk; omega
      have HCF := Lib.hid (fun (V : World) (hV : Kept [] w3 V) => contains_false gd M.regs.length M.regs.length (neededN M) V hnl (by omega) (ho3.kept0 hV))
      have HCS := Lib.hid (fun (V : World) (hV : Kept [] w3 V) => contains_stuck ra rc M.regs.length M.regs V rfl (by omega) ((regs_sl (l := M.regs) rfl hc.rb).kept0 hV))
      have HRC := Lib.hid (fun (V : World) (hV : Kept [] w3 V) => reached_c (N3.out.kept0 hV) HFN.out.1 hk)
      have HGT := Lib.hid (fun (V : World) (hV : Kept [] w3 V) => aig_gates (hc.gr.kept0 hV) (by have := HFN.out.1.ok.len; omega))
      rw [gatesN_X HFN.out.1] at HGT
      have HCL := Lib.hid (fun (V : World) (hV : Kept [] w3 V) => And.intro (hV.cell c0 (by simp)) (hV.cell c3 (by simp)))
      have HDN := Lib.hid (show doneN M = (!(neededN M).contains false && !M.regs.any stuckR && decide (reachedN M = gatesX M)) from rfl)
      generalize M.regs.length = nR at *
      generalize (neededN M).contains false = b1 at *
      generalize M.regs.any stuckR = b2 at *
      generalize reachedN M = q1 at *
      generalize gatesX M = q2 at *
      clear ho3 k3 hge3 hnl hFe hRe hc c0 c3
      cases b1 with
      | true =>
        have HD := Lib.hid (show doneN M = false from by rw [HDN.out]; rfl)
        go_upto_region 5 with (fail)
        refine wp_region_keptW (by kernel_rfl) ?_
        (go_big_quiet_want; apply Exists.intro; refine ⟨fun V hV => ?_, ?_⟩; rotate_left; go_big_quiet_on; (try simp only [Act.put, List.setIfInBounds_toArray, List.set_cons_zero, List.set_cons_succ]); rotate_right)
        · go_simp
          exact rfl
        (go_big_quiet_want; apply Exists.intro; refine ⟨fun V hV => ?_, ?_⟩; rotate_left; go_big_quiet_on; (try simp only [Act.put, List.setIfInBounds_toArray, List.set_cons_zero, List.set_cons_succ]); rotate_right)
        · go_simp
          exact (HCF.out V hV).mono fun e V' h => ⟨h.1, hV.trans h.2⟩
        (go_big_quiet_want; apply Exists.intro; refine ⟨fun V hV => ?_, ?_⟩; rotate_left; go_big_quiet_on; (try simp only [Act.put, List.setIfInBounds_toArray, List.set_cons_zero, List.set_cons_succ]); rotate_right)
        · go_simp
          exact rfl
        (go_big_quiet_want; apply Exists.intro; refine ⟨fun V hV => ?_, ?_⟩; rotate_left; go_big_quiet_on; (try simp only [Act.put, List.setIfInBounds_toArray, List.set_cons_zero, List.set_cons_succ]); rotate_right)
        · go_simp
          exact rfl
        go_big_quiet_skip
        go_big_quiet_skip
        go_big_quiet_skip
        go_big_quiet_skip
        go_big_quiet_skip
        go_big_quiet_skip
        (go_big_quiet_want; apply Exists.intro; refine ⟨fun V hV => ?_, ?_⟩; rotate_left; go_big_quiet_on; (try simp only [Act.put, List.setIfInBounds_toArray, List.set_cons_zero, List.set_cons_succ]); rotate_right)
        · go_simp
          exact rfl
        (go_big_quiet_want; apply Exists.intro; refine ⟨fun V hV => ?_, ?_⟩; rotate_left; go_big_quiet_on; (try simp only [Act.put, List.setIfInBounds_toArray, List.set_cons_zero, List.set_cons_succ]); rotate_right)
        · go_simp
          exact rfl
        go_big_quiet_skip
        go_big_quiet_skip
        go_big_quiet_skip
        go_big_quiet_skip
        go_big_quiet_skip
        go_big_quiet_skip
        go_big_quiet_skip
        go_big_quiet_skip
        (go_big_quiet_want; apply Exists.intro; refine ⟨fun V hV => ?_, ?_⟩; rotate_left; go_big_quiet_on; (try simp only [Act.put, List.setIfInBounds_toArray, List.set_cons_zero, List.set_cons_succ]); rotate_right)
        · go_simp
          exact rfl
        refine wpQuiet_nil ?_
        intro w4 k4
        have K4 := Lib.hid k4
        clear k4
        go_wp2_with fail
        go_roundg g'
        case measure => omega
        case rel =>
          have h1 := HSZ.out HD.out
          have h2 := HL1.out
          have h3 := HST.out
          rw [HD.out, if_neg (by simp)] at h3
          exact ⟨n2, F2, R2, M, rfl, N3.out.kept0 K4.out, HFN.out.1, HFN.out.2, by rw [← h3]; exact HS1.out, by omega, K3.out.trans K4.out⟩
      | false =>
        cases b2 with
        | true =>
          have HD := Lib.hid (show doneN M = false from by rw [HDN.out]; rfl)
          go_upto_region 5 with (fail)
          refine wp_region_keptW (by kernel_rfl) ?_
          (go_big_quiet_want; apply Exists.intro; refine ⟨fun V hV => ?_, ?_⟩; rotate_left; go_big_quiet_on; (try simp only [Act.put, List.setIfInBounds_toArray, List.set_cons_zero, List.set_cons_succ]); rotate_right)
          · go_simp
            exact rfl
          (go_big_quiet_want; apply Exists.intro; refine ⟨fun V hV => ?_, ?_⟩; rotate_left; go_big_quiet_on; (try simp only [Act.put, List.setIfInBounds_toArray, List.set_cons_zero, List.set_cons_succ]); rotate_right)
          · go_simp
            exact (HCF.out V hV).mono fun e V' h => ⟨h.1, hV.trans h.2⟩
          (go_big_quiet_want; apply Exists.intro; refine ⟨fun V hV => ?_, ?_⟩; rotate_left; go_big_quiet_on; (try simp only [Act.put, List.setIfInBounds_toArray, List.set_cons_zero, List.set_cons_succ]); rotate_right)
          · go_simp
            exact rfl
          (go_big_quiet_want; apply Exists.intro; refine ⟨fun V hV => ?_, ?_⟩; rotate_left; go_big_quiet_on; (try simp only [Act.put, List.setIfInBounds_toArray, List.set_cons_zero, List.set_cons_succ]); rotate_right)
          · go_simp
            exact rfl
          (go_big_quiet_want; apply Exists.intro; refine ⟨fun V hV => ?_, ?_⟩; rotate_left; go_big_quiet_on; (try simp only [Act.put, List.setIfInBounds_toArray, List.set_cons_zero, List.set_cons_succ]); rotate_right)
          · go_simp
            exact rfl
          (go_big_quiet_want; apply Exists.intro; refine ⟨fun V hV => ?_, ?_⟩; rotate_left; go_big_quiet_on; (try simp only [Act.put, List.setIfInBounds_toArray, List.set_cons_zero, List.set_cons_succ]); rotate_right)
          · go_simp
            exact rfl
          (go_big_quiet_want; apply Exists.intro; refine ⟨fun V hV => ?_, ?_⟩; rotate_left; go_big_quiet_on; (try simp only [Act.put, List.setIfInBounds_toArray, List.set_cons_zero, List.set_cons_succ]); rotate_right)
          · go_simp
            exact rfl
          (go_big_quiet_want; apply Exists.intro; refine ⟨fun V hV => ?_, ?_⟩; rotate_left; go_big_quiet_on; (try simp only [Act.put, List.setIfInBounds_toArray, List.set_cons_zero, List.set_cons_succ]); rotate_right)
          · obtain ⟨g0, g3⟩ := HCL.out V hV
            go_simp
            exact rfl
          (go_big_quiet_want; apply Exists.intro; refine ⟨fun V hV => ?_, ?_⟩; rotate_left; go_big_quiet_on; (try simp only [Act.put, List.setIfInBounds_toArray, List.set_cons_zero, List.set_cons_succ]); rotate_right)
          · go_simp
            exact (HCS.out V hV).mono fun e V' h => ⟨h.1, hV.trans h.2⟩
          (go_big_quiet_want; apply Exists.intro; refine ⟨fun V hV => ?_, ?_⟩; rotate_left; go_big_quiet_on; (try simp only [Act.put, List.setIfInBounds_toArray, List.set_cons_zero, List.set_cons_succ]); rotate_right)
          · go_simp
            exact rfl
          (go_big_quiet_want; apply Exists.intro; refine ⟨fun V hV => ?_, ?_⟩; rotate_left; go_big_quiet_on; (try simp only [Act.put, List.setIfInBounds_toArray, List.set_cons_zero, List.set_cons_succ]); rotate_right)
          · go_simp
            exact rfl
          (go_big_quiet_want; apply Exists.intro; refine ⟨fun V hV => ?_, ?_⟩; rotate_left; go_big_quiet_on; (try simp only [Act.put, List.setIfInBounds_toArray, List.set_cons_zero, List.set_cons_succ]); rotate_right)
          · go_simp
            exact rfl
          go_big_quiet_skip
          go_big_quiet_skip
          go_big_quiet_skip
          go_big_quiet_skip
          go_big_quiet_skip
          go_big_quiet_skip
          go_big_quiet_skip
          go_big_quiet_skip
          (go_big_quiet_want; apply Exists.intro; refine ⟨fun V hV => ?_, ?_⟩; rotate_left; go_big_quiet_on; (try simp only [Act.put, List.setIfInBounds_toArray, List.set_cons_zero, List.set_cons_succ]); rotate_right)
          · go_simp
            exact rfl
          refine wpQuiet_nil ?_
          intro w4 k4
          have K4 := Lib.hid k4
          clear k4
          go_wp2_with fail
          go_roundg g'
          case measure => omega
          case rel =>
            have h1 := HSZ.out HD.out
            have h2 := HL1.out
            have h3 := HST.out
            rw [HD.out, if_neg (by simp)] at h3
            exact ⟨n2, F2, R2, M, rfl, N3.out.kept0 K4.out, HFN.out.1, HFN.out.2, by rw [← h3]; exact HS1.out, by omega, K3.out.trans K4.out⟩
        | false =>
          have hqq : ((q1 : Int) == (q2 : Int)) = decide (q1 = q2) := by rw [Bool.eq_iff_iff]; simp; omega
          have HQQ := Lib.hid hqq
          obtain ⟨dd, hdd⟩ : ∃ d, d = decide (q1 = q2) := ⟨_, rfl⟩
          have HDD := Lib.hid hdd
          rw [← hdd] at hqq
          have HD := Lib.hid (show doneN M = dd from by rw [HDN.out, ← HDD.out]; rfl)
          clear hdd
          go_upto_region 5 with (fail)
          refine wp_region_keptW (by kernel_rfl) ?_
          (go_big_quiet_want; apply Exists.intro; refine ⟨fun V hV => ?_, ?_⟩; rotate_left; go_big_quiet_on; (try simp only [Act.put, List.setIfInBounds_toArray, List.set_cons_zero, List.set_cons_succ]); rotate_right)
          · go_simp
            exact rfl
          (go_big_quiet_want; apply Exists.intro; refine ⟨fun V hV => ?_, ?_⟩; rotate_left; go_big_quiet_on; (try simp only [Act.put, List.setIfInBounds_toArray, List.set_cons_zero, List.set_cons_succ]); rotate_right)
          · go_simp
            exact (HCF.out V hV).mono fun e V' h => ⟨h.1, hV.trans h.2⟩
          (go_big_quiet_want; apply Exists.intro; refine ⟨fun V hV => ?_, ?_⟩; rotate_left; go_big_quiet_on; (try simp only [Act.put, List.setIfInBounds_toArray, List.set_cons_zero, List.set_cons_succ]); rotate_right)
          · go_simp
            exact rfl
          (go_big_quiet_want; apply Exists.intro; refine ⟨fun V hV => ?_, ?_⟩; rotate_left; go_big_quiet_on; (try simp only [Act.put, List.setIfInBounds_toArray, List.set_cons_zero, List.set_cons_succ]); rotate_right)
          · go_simp
            exact rfl
          (go_big_quiet_want; apply Exists.intro; refine ⟨fun V hV => ?_, ?_⟩; rotate_left; go_big_quiet_on; (try simp only [Act.put, List.setIfInBounds_toArray, List.set_cons_zero, List.set_cons_succ]); rotate_right)
          · go_simp
            exact rfl
          (go_big_quiet_want; apply Exists.intro; refine ⟨fun V hV => ?_, ?_⟩; rotate_left; go_big_quiet_on; (try simp only [Act.put, List.setIfInBounds_toArray, List.set_cons_zero, List.set_cons_succ]); rotate_right)
          · go_simp
            exact rfl
          (go_big_quiet_want; apply Exists.intro; refine ⟨fun V hV => ?_, ?_⟩; rotate_left; go_big_quiet_on; (try simp only [Act.put, List.setIfInBounds_toArray, List.set_cons_zero, List.set_cons_succ]); rotate_right)
          · go_simp
            exact rfl
          (go_big_quiet_want; apply Exists.intro; refine ⟨fun V hV => ?_, ?_⟩; rotate_left; go_big_quiet_on; (try simp only [Act.put, List.setIfInBounds_toArray, List.set_cons_zero, List.set_cons_succ]); rotate_right)
          · obtain ⟨g0, g3⟩ := HCL.out V hV
            go_simp
            exact rfl
          (go_big_quiet_want; apply Exists.intro; refine ⟨fun V hV => ?_, ?_⟩; rotate_left; go_big_quiet_on; (try simp only [Act.put, List.setIfInBounds_toArray, List.set_cons_zero, List.set_cons_succ]); rotate_right)
          · go_simp
            exact (HCS.out V hV).mono fun e V' h => ⟨h.1, hV.trans h.2⟩
          (go_big_quiet_want; apply Exists.intro; refine ⟨fun V hV => ?_, ?_⟩; rotate_left; go_big_quiet_on; (try simp only [Act.put, List.setIfInBounds_toArray, List.set_cons_zero, List.set_cons_succ]); rotate_right)
          · go_simp
            exact rfl
          (go_big_quiet_want; apply Exists.intro; refine ⟨fun V hV => ?_, ?_⟩; rotate_left; go_big_quiet_on; (try simp only [Act.put, List.setIfInBounds_toArray, List.set_cons_zero, List.set_cons_succ]); rotate_right)
          · go_simp
            exact rfl
          (go_big_quiet_want; apply Exists.intro; refine ⟨fun V hV => ?_, ?_⟩; rotate_left; go_big_quiet_on; (try simp only [Act.put, List.setIfInBounds_toArray, List.set_cons_zero, List.set_cons_succ]); rotate_right)
          · go_simp
            exact rfl
          (go_big_quiet_want; apply Exists.intro; refine ⟨fun V hV => ?_, ?_⟩; rotate_left; go_big_quiet_on; (try simp only [Act.put, List.setIfInBounds_toArray, List.set_cons_zero, List.set_cons_succ]); rotate_right)
          · go_simp
            exact rfl
          (go_big_quiet_want; apply Exists.intro; refine ⟨fun V hV => ?_, ?_⟩; rotate_left; go_big_quiet_on; (try simp only [Act.put, List.setIfInBounds_toArray, List.set_cons_zero, List.set_cons_succ]); rotate_right)
          · go_simp
            exact (HRC.out V hV).mono fun e V' h => ⟨h.1, hV.trans h.2⟩
          (go_big_quiet_want; apply Exists.intro; refine ⟨fun V hV => ?_, ?_⟩; rotate_left; go_big_quiet_on; (try simp only [Act.put, List.setIfInBounds_toArray, List.set_cons_zero, List.set_cons_succ]); rotate_right)
          · go_simp
            exact rfl
          (go_big_quiet_want; apply Exists.intro; refine ⟨fun V hV => ?_, ?_⟩; rotate_left; go_big_quiet_on; (try simp only [Act.put, List.setIfInBounds_toArray, List.set_cons_zero, List.set_cons_succ]); rotate_right)
          · go_simp
            exact rfl
          (go_big_quiet_want; apply Exists.intro; refine ⟨fun V hV => ?_, ?_⟩; rotate_left; go_big_quiet_on; (try simp only [Act.put, List.setIfInBounds_toArray, List.set_cons_zero, List.set_cons_succ]); rotate_right)
          · go_simp
            exact rfl
          (go_big_quiet_want; apply Exists.intro; refine ⟨fun V hV => ?_, ?_⟩; rotate_left; go_big_quiet_on; (try simp only [Act.put, List.setIfInBounds_toArray, List.set_cons_zero, List.set_cons_succ]); rotate_right)
          · obtain ⟨g0, g3⟩ := HCL.out V hV
            go_simp
            exact rfl
          (go_big_quiet_want; apply Exists.intro; refine ⟨fun V hV => ?_, ?_⟩; rotate_left; go_big_quiet_on; (try simp only [Act.put, List.setIfInBounds_toArray, List.set_cons_zero, List.set_cons_succ]); rotate_right)
          · go_simp
            exact (HGT.out V hV).mono fun e V' h => ⟨h.1, by obtain ⟨_, j, rfl⟩ := h; exact hV.drewN j⟩
          (go_big_quiet_want; apply Exists.intro; refine ⟨fun V hV => ?_, ?_⟩; rotate_left; go_big_quiet_on; (try simp only [Act.put, List.setIfInBounds_toArray, List.set_cons_zero, List.set_cons_succ]); rotate_right)
          · go_simp
            exact rfl
          (go_big_quiet_want; apply Exists.intro; refine ⟨fun V hV => ?_, ?_⟩; rotate_left; go_big_quiet_on; (try simp only [Act.put, List.setIfInBounds_toArray, List.set_cons_zero, List.set_cons_succ]); rotate_right)
          · go_simp
            exact rfl
          refine wpQuiet_nil ?_
          intro w4 k4
          have K4 := Lib.hid k4
          clear k4
          cases dd with
          | true =>
            go_wp2_with fail
            go_ret2
            have h3 := HST.out
            rw [HD.out, if_pos rfl] at h3
            refine ⟨n2, F2, R2, rfl, ?_, K3.out.trans K4.out, HFR.out⟩
            rw [← HS1.out, h3]
            exact N3.out.kept0 K4.out
          | false =>
            go_wp2_with fail
            go_roundg g'
            case measure => omega
            case rel =>
              have h1 := HSZ.out HD.out
              have h2 := HL1.out
              have h3 := HST.out
              rw [HD.out, if_neg (by simp)] at h3
              exact ⟨n2, F2, R2, M, rfl, N3.out.kept0 K4.out, HFN.out.1, HFN.out.2, by rw [← h3]; exact HS1.out, by omega, K3.out.trans K4.out⟩
  · rw [if_neg h0]
    have h1 : ¬ (cn : Int) = 0 := by omega
    have hon := Once_c HH.out HF.out hk
    rw [← HCN.out, if_neg h0] at hon
    have HON := Lib.hid hon
    clear hon
    go_enter Try.func4, Try.ntmps4
    go_wp2_with fail
    go_loopw [0] (fun v wr => v = .pointer (some ⟨n, 0, none⟩) ∧ w = wr) (fun _ _ => 0)
    case atStart => exact ⟨rfl, rfl⟩
    case round =>
      obtain ⟨rfl, rfl⟩ := hrel
      go_wp2_with fail
      refine HON.out.mono ?_
      rintro e w1 ⟨rfl, k1⟩
      have K1 := Lib.hid k1
      clear k1
      go_wp2_with fail
      go_ret2
      exact ⟨rfl, K1.out⟩
end Go.Proofs.Ytdmcdhkkbkgnbaa
