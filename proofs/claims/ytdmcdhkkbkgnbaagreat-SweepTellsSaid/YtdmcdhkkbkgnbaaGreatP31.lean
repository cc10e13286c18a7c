/-
  The document's netlists in memory.
  Law 06: tells, the chapter's rows.
  Law 06: rows; the chapter's rows (tells).
  Package sweep: swept again and again.
-/
import Derived.Test.YtdmcdhkkbkgnbaaGreatP30
import Derived.BigRegion
import Derived.BigQuiet
import Derived.Test.YtdmcdhkkbkgnbaaGreatP17
import Derived.Test.YtdmcdhkkbkgnbaaGreatP09
import Derived.Test.YtdmcdhkkbkgnbaaGreatP20
namespace Go.Proofs.YtdmcdhkkbkgnbaaGreat
open Go.ChangeShapes Go.WideShapes Go.ChangeAt Go.RowKit
open Go.Maps (Keyed)
open Go.WideMaps
set_option linter.unusedVariables false
set_option linter.unusedSimpArgs false

variable {w w' W w0 : World} {p n n' k m s mp gd fb : Nat} {F R S F' R' F'' R'' : List Nat} {g : Gr} {N M M' : Nt}
theorem wp_region_keptW {id : Nat} {Q : Exit → Act → World → Prop} {a : Act} {w : World} {l : List Oper} (hB : Region.lexB .any l.toArray = true)
    (h : wpQuiet Tryz.prog l.toArray (fun V => Kept [] w V) (fun a' => ∀ w', Kept [] w w' → Q .normal a' w') l a) : (Code.region id l.toArray true).wp Tryz.prog Q a w :=
  wp_region_quiet (C := fun V => Kept [] w V) (by kernel_rfl) hB (Kept.refl [] w).drew (by simpa using h)
theorem gatesN_X (hf : NtFine k M) : gatesN M.g = ((gatesX M : Nat) : Int) := by
  have h := pick_ins M.g.nodes [] M.g.nodes.length (Nat.le_refl _)
  rw [List.take_length] at h
  have hp := hf.ok.wf.pos
  unfold gatesN gatesX
  omega
def AllNew (N : Nt) (w : World) (e : Ending) (w' : World) : Prop := ∃ n' F' R', e = .returned (.tuple #[.pointer (some ⟨n', 0, none⟩), .int .i64 0]) ∧ NetAt w' n' F' R' (sweptN N) ∧ Kept [] w w' ∧ ∀ b ∈ F' ++ R', w.heap.size ≤ b
set_option maxHeartbeats 6400000 in
set_option maxRecDepth 100000 in
theorem All_c (h : NetAt w n F R N) (hf : NtFine k N) (hk : k ≤ 600) : Calls Tryz.prog 12 #[.pointer (some ⟨n, 0, none⟩)] w (if checkN N = 0 then AllNew N w else NetNone (checkN N) w) := by
  have HH := Lib.hid h
  have HF := Lib.hid hf
  obtain ⟨cn, hcn⟩ : ∃ c, c = checkN N := ⟨_, rfl⟩
  have HCN := Lib.hid hcn
  rw [← hcn]
  clear h hf hcn
  by_cases h0 : cn = 0
  · rw [if_pos h0]
    subst h0
    go_enter Tryz.func12, Tryz.ntmps12
    go_wp2_with fail
    go_loopg [0] (sizeN (onceN N) + 1) (fun gf v wr => ∃ (n1 : Nat) (F1 R1 : List Nat) (N1 : Nt), v = .pointer (some ⟨n1, 0, none⟩) ∧ NetAt wr n1 F1 R1 N1 ∧ NtFine k N1 ∧ checkN N1 = 0 ∧ sweptN N1 = sweptN N ∧ sizeN (onceN N1) < gf ∧ Kept [] w wr)
    case atStart => exact ⟨n, F, R, N, rfl, HH.out, HF.out, HCN.out.symm, rfl, Nat.lt_succ_self _, .refl _ _⟩
    case round =>
      obtain ⟨n1, F1, R1, N1, rfl, hn1, hf1, hz1, hs1, hlt1, hk1⟩ := hrel
      obtain ⟨g', rfl⟩ : ∃ g', gk = g' + 1 := ⟨gk - 1, by omega⟩
      have HF1 := Lib.hid hf1
      have HS1 := Lib.hid hs1
      have HL1 := Lib.hid hlt1
      have KR := Lib.hid hk1
      have hon := Once_c hn1 hf1 hk
      rw [if_pos hz1] at hon
      have HON := Lib.hid hon
      have HFN := Lib.hid (once_fine hf1)
      have HST := Lib.hid (swept_step hf1)
      have HSZ := Lib.hid (fun hd => size_lt (once_fine hf1).1 hd)
      clear hn1 hf1 hz1 hs1 hlt1 hk1 hon
      go_wp2_with fail
      refine HON.out.mono ?_
      rintro e w1 ⟨n2, F2, R2, rfl, hn2, k2, hf2⟩
      generalize onceN N1 = M at *
      have K2 := Lib.hid (KR.out.trans k2)
      have N2 := Lib.hid hn2
      have HFR := Lib.hid (show ∀ b ∈ F2 ++ R2, w.heap.size ≤ b from fun b hb => Nat.le_trans KR.out.size (hf2 b hb))
      have hnd := Needed_c hn2 HFN.out.1 (by omega)
      rw [if_pos HFN.out.2] at hnd
      have HND := Lib.hid hnd
      clear hn2 k2 hf2 hnd
      go_wp2_with fail
      refine HND.out.mono ?_
      rintro e w3 ⟨gd, rfl, ho3, k3, hge3⟩
      have K3 := Lib.hid (K2.out.trans k3)
      have N3 := Lib.hid (N2.out.kept0 k3)
      have HO3 := Lib.hid ho3
      have hnl := needed_length HFN.out.1
      rw [hnl] at ho3 ⊢
      have HO3 := Lib.hid ho3
      obtain ⟨pp, G, ia, ic, ra, rc, oa, oc, ri, ro, hFe, hRe, hc⟩ := N3.out
      have c0 := hc.c0
      have c3 := hc.c3
      have hnr : M.regs.length ≤ 600 := by have := HFN.out.1.ok.rk; omega
      have HCF := Lib.hid (fun (V : World) (hV : Kept [] w3 V) => contains_false gd M.regs.length M.regs.length (neededN M) V hnl (by omega) (ho3.kept0 hV))
      have HCS := Lib.hid (fun (V : World) (hV : Kept [] w3 V) => contains_stuck ra rc M.regs.length M.regs V rfl (by omega) ((regs_sl (l := M.regs) rfl hc.rb).kept0 hV))
      have HRC := Lib.hid (fun (V : World) (hV : Kept [] w3 V) => reached_c (N3.out.kept0 hV) HFN.out.1 hk)
      have HGT := Lib.hid (fun (V : World) (hV : Kept [] w3 V) => aig_gates (hc.gr.kept0 hV) (by have := HFN.out.1.ok.len; omega))
      rw [gatesN_X HFN.out.1] at HGT
      have HCL := Lib.hid (fun (V : World) (hV : Kept [] w3 V) => And.intro (hV.cell c0 (by simp)) (hV.cell c3 (by simp)))
      have HDN := Lib.hid (show doneN M = (!(neededN M).contains false && !M.regs.any stuckR && decide (reachedN M = gatesX M)) from rfl)
      generalize M.regs.length = nR at *
      generalize (neededN M).contains false = b1 at *
      generalize M.regs.any stuckR = b2 at *
      generalize reachedN M = q1 at *
      generalize gatesX M = q2 at *
      clear ho3 k3 hge3 hnl hFe hRe hc c0 c3
      cases b1 with
      | true =>
        have HD := Lib.hid (show doneN M = false from by rw [HDN.out]; rfl)
        go_upto_region 5 with (fail)
        refine wp_region_keptW (by kernel_rfl) ?_
        (go_big_quiet_want; apply Exists.intro; refine ⟨fun V hV => ?_, ?_⟩; rotate_left; go_big_quiet_on; (try simp only [Act.put, List.setIfInBounds_toArray, List.set_cons_zero, List.set_cons_succ]); rotate_right)
        · go_simp
          exact rfl
        (go_big_quiet_want; apply Exists.intro; refine ⟨fun V hV => ?_, ?_⟩; rotate_left; go_big_quiet_on; (try simp only [Act.put, List.setIfInBounds_toArray, List.set_cons_zero, List.set_cons_succ]); rotate_right)
        · go_simp
          exact (HCF.out V hV).mono fun e V' h => ⟨h.1, hV.trans h.2⟩
        (go_big_quiet_want; apply Exists.intro; refine ⟨fun V hV => ?_, ?_⟩; rotate_left; go_big_quiet_on; (try simp only [Act.put, List.setIfInBounds_toArray, List.set_cons_zero, List.set_cons_succ]); rotate_right)
        · go_simp
          exact rfl
        (go_big_quiet_want; apply Exists.intro; refine ⟨fun V hV => ?_, ?_⟩; rotate_left; go_big_quiet_on; (try simp only [Act.put, List.setIfInBounds_toArray, List.set_cons_zero, List.set_cons_succ]); rotate_right)
        · go_simp
          exact rfl
        go_big_quiet_skip
        go_big_quiet_skip
        go_big_quiet_skip
        go_big_quiet_skip
        go_big_quiet_skip
        go_big_quiet_skip
        (go_big_quiet_want; apply Exists.intro; refine ⟨fun V hV => ?_, ?_⟩; rotate_left; go_big_quiet_on; (try simp only [Act.put, List.setIfInBounds_toArray, List.set_cons_zero, List.set_cons_succ]); rotate_right)
        · go_simp
          exact rfl
        (go_big_quiet_want; apply Exists.intro; refine ⟨fun V hV => ?_, ?_⟩; rotate_left; go_big_quiet_on; (try simp only [Act.put, List.setIfInBounds_toArray, List.set_cons_zero, List.set_cons_succ]); rotate_right)
        · go_simp
          exact rfl
        go_big_quiet_skip
        go_big_quiet_skip
        go_big_quiet_skip
        go_big_quiet_skip
        go_big_quiet_skip
        go_big_quiet_skip
        go_big_quiet_skip
        go_big_quiet_skip
        (go_big_quiet_want; apply Exists.intro; refine ⟨fun V hV => ?_, ?_⟩; rotate_left; go_big_quiet_on; (try simp only [Act.put, List.setIfInBounds_toArray, List.set_cons_zero, List.set_cons_succ]); rotate_right)
        · go_simp
          exact rfl
        refine wpQuiet_nil ?_
        intro w4 k4
        have K4 := Lib.hid k4
        clear k4
        go_wp2_with fail
        go_roundg g'
        case measure => omega
        case rel =>
          have h1 := HSZ.out HD.out
          have h2 := HL1.out
          have h3 := HST.out
          rw [HD.out, if_neg (by simp)] at h3
          exact ⟨n2, F2, R2, M, rfl, N3.out.kept0 K4.out, HFN.out.1, HFN.out.2, by rw [← h3]; exact HS1.out, by omega, K3.out.trans K4.out⟩
      | false =>
        cases b2 with
        | true =>
          have HD := Lib.hid (show doneN M = false from by rw [HDN.out]; rfl)
          go_upto_region 5 with (fail)
          refine wp_region_keptW (by kernel_rfl) ?_
          (go_big_quiet_want; apply Exists.intro; refine ⟨fun V hV => ?_, ?_⟩; rotate_left; go_big_quiet_on; (try simp only [Act.put, List.setIfInBounds_toArray, List.set_cons_zero, List.set_cons_succ]); rotate_right)
          · go_simp
            exact rfl
          (go_big_quiet_want; apply Exists.intro; refine ⟨fun V hV => ?_, ?_⟩; rotate_left; go_big_quiet_on; (try simp only [Act.put, List.setIfInBounds_toArray, List.set_cons_zero, List.set_cons_succ]); rotate_right)
          · go_simp
            exact (HCF.out V hV).mono fun e V' h => ⟨h.1, hV.trans h.2⟩
          (go_big_quiet_want; apply Exists.intro; refine ⟨fun V hV => ?_, ?_⟩; rotate_left; go_big_quiet_on; (try simp only [Act.put, List.setIfInBounds_toArray, List.set_cons_zero, List.set_cons_succ]); rotate_right)
          · go_simp
            exact rfl
          (go_big_quiet_want; apply Exists.intro; refine ⟨fun V hV => ?_, ?_⟩; rotate_left; go_big_quiet_on; (try simp only [Act.put, List.setIfInBounds_toArray, List.set_cons_zero, List.set_cons_succ]); rotate_right)
          · go_simp
            exact rfl
          (go_big_quiet_want; apply Exists.intro; refine ⟨fun V hV => ?_, ?_⟩; rotate_left; go_big_quiet_on; (try simp only [Act.put, List.setIfInBounds_toArray, List.set_cons_zero, List.set_cons_succ]); rotate_right)
          · go_simp
            exact rfl
          (go_big_quiet_want; apply Exists.intro; refine ⟨fun V hV => ?_, ?_⟩; rotate_left; go_big_quiet_on; (try simp only [Act.put, List.setIfInBounds_toArray, List.set_cons_zero, List.set_cons_succ]); rotate_right)
          · go_simp
            exact rfl
          (go_big_quiet_want; apply Exists.intro; refine ⟨fun V hV => ?_, ?_⟩; rotate_left; go_big_quiet_on; (try simp only [Act.put, List.setIfInBounds_toArray, List.set_cons_zero, List.set_cons_succ]); rotate_right)
          · go_simp
            exact rfl
          (go_big_quiet_want; apply Exists.intro; refine ⟨fun V hV => ?_, ?_⟩; rotate_left; go_big_quiet_on; (try simp only [Act.put, List.setIfInBounds_toArray, List.set_cons_zero, List.set_cons_succ]); rotate_right)
          · obtain ⟨g0, g3⟩ := HCL.out V hV
            go_simp
            exact rfl
          (go_big_quiet_want; apply Exists.intro; refine ⟨fun V hV => ?_, ?_⟩; rotate_left; go_big_quiet_on; (try simp only [Act.put, List.setIfInBounds_toArray, List.set_cons_zero, List.set_cons_succ]); rotate_right)
          · go_simp
            exact (HCS.out V hV).mono fun e V' h => ⟨h.1, hV.trans h.2⟩
          (go_big_quiet_want; apply Exists.intro; refine ⟨fun V hV => ?_, ?_⟩; rotate_left; go_big_quiet_on; (try simp only [Act.put, List.setIfInBounds_toArray, List.set_cons_zero, List.set_cons_succ]); rotate_right)
          · go_simp
            exact rfl
          (go_big_quiet_want; apply Exists.intro; refine ⟨fun V hV => ?_, ?_⟩; rotate_left; go_big_quiet_on; (try simp only [Act.put, List.setIfInBounds_toArray, List.set_cons_zero, List.set_cons_succ]); rotate_right)
          · go_simp
            exact rfl
          (go_big_quiet_want; apply Exists.intro; refine ⟨fun V hV => ?_, ?_⟩; rotate_left; go_big_quiet_on; (try simp only [Act.put, List.setIfInBounds_toArray, List.set_cons_zero, List.set_cons_succ]); rotate_right)
          · go_simp
            exact rfl
          go_big_quiet_skip
          go_big_quiet_skip
          go_big_quiet_skip
          go_big_quiet_skip
          go_big_quiet_skip
          go_big_quiet_skip
          go_big_quiet_skip
          go_big_quiet_skip
          (go_big_quiet_want; apply Exists.intro; refine ⟨fun V hV => ?_, ?_⟩; rotate_left; go_big_quiet_on; (try simp only [Act.put, List.setIfInBounds_toArray, List.set_cons_zero, List.set_cons_succ]); rotate_right)
          · go_simp
            exact rfl
          refine wpQuiet_nil ?_
          intro w4 k4
          have K4 := Lib.hid k4
          clear k4
          go_wp2_with fail
          go_roundg g'
          case measure => omega
          case rel =>
            have h1 := HSZ.out HD.out
            have h2 := HL1.out
            have h3 := HST.out
            rw [HD.out, if_neg (by simp)] at h3
            exact ⟨n2, F2, R2, M, rfl, N3.out.kept0 K4.out, HFN.out.1, HFN.out.2, by rw [← h3]; exact HS1.out, by omega, K3.out.trans K4.out⟩
        | false =>
          have hqq : ((q1 : Int) == (q2 : Int)) = decide (q1 = q2) := by rw [Bool.eq_iff_iff]; simp; omega
          have HQQ := Lib.hid hqq
          obtain ⟨dd, hdd⟩ : ∃ d, d = decide (q1 = q2) := ⟨_, rfl⟩
          have HDD := Lib.hid hdd
          rw [← hdd] at hqq
          have HD := Lib.hid (show doneN M = dd from by rw [HDN.out, ← HDD.out]; rfl)
          clear hdd
          go_upto_region 5 with (fail)
          refine wp_region_keptW (by kernel_rfl) ?_
          (go_big_quiet_want; apply Exists.intro; refine ⟨fun V hV => ?_, ?_⟩; rotate_left; go_big_quiet_on; (try simp only [Act.put, List.setIfInBounds_toArray, List.set_cons_zero, List.set_cons_succ]); rotate_right)
          · go_simp
            exact rfl
          (go_big_quiet_want; apply Exists.intro; refine ⟨fun V hV => ?_, ?_⟩; rotate_left; go_big_quiet_on; (try simp only [Act.put, List.setIfInBounds_toArray, List.set_cons_zero, List.set_cons_succ]); rotate_right)
          · go_simp
            exact (HCF.out V hV).mono fun e V' h => ⟨h.1, hV.trans h.2⟩
          (go_big_quiet_want; apply Exists.intro; refine ⟨fun V hV => ?_, ?_⟩; rotate_left; go_big_quiet_on; (try simp only [Act.put, List.setIfInBounds_toArray, List.set_cons_zero, List.set_cons_succ]); rotate_right)
          · go_simp
            exact rfl
          (go_big_quiet_want; apply Exists.intro; refine ⟨fun V hV => ?_, ?_⟩; rotate_left; go_big_quiet_on; (try simp only [Act.put, List.setIfInBounds_toArray, List.set_cons_zero, List.set_cons_succ]); rotate_right)
          · go_simp
            exact rfl
          (go_big_quiet_want; apply Exists.intro; refine ⟨fun V hV => ?_, ?_⟩; rotate_left; go_big_quiet_on; (try simp only [Act.put, List.setIfInBounds_toArray, List.set_cons_zero, List.set_cons_succ]); rotate_right)
          · go_simp
            exact rfl
          (go_big_quiet_want; apply Exists.intro; refine ⟨fun V hV => ?_, ?_⟩; rotate_left; go_big_quiet_on; (try simp only [Act.put, List.setIfInBounds_toArray, List.set_cons_zero, List.set_cons_succ]); rotate_right)
          · go_simp
            exact rfl
          (go_big_quiet_want; apply Exists.intro; refine ⟨fun V hV => ?_, ?_⟩; rotate_left; go_big_quiet_on; (try simp only [Act.put, List.setIfInBounds_toArray, List.set_cons_zero, List.set_cons_succ]); rotate_right)
          · go_simp
            exact rfl
          (go_big_quiet_want; apply Exists.intro; refine ⟨fun V hV => ?_, ?_⟩; rotate_left; go_big_quiet_on; (try simp only [Act.put, List.setIfInBounds_toArray, List.set_cons_zero, List.set_cons_succ]); rotate_right)
          · obtain ⟨g0, g3⟩ := HCL.out V hV
            go_simp
            exact rfl
          (go_big_quiet_want; apply Exists.intro; refine ⟨fun V hV => ?_, ?_⟩; rotate_left; go_big_quiet_on; (try simp only [Act.put, List.setIfInBounds_toArray, List.set_cons_zero, List.set_cons_succ]); rotate_right)
          · go_simp
            exact (HCS.out V hV).mono fun e V' h => ⟨h.1, hV.trans h.2⟩
          (go_big_quiet_want; apply Exists.intro; refine ⟨fun V hV => ?_, ?_⟩; rotate_left; go_big_quiet_on; (try simp only [Act.put, List.setIfInBounds_toArray, List.set_cons_zero, List.set_cons_succ]); rotate_right)
          · go_simp
            exact rfl
          (go_big_quiet_want; apply Exists.intro; refine ⟨fun V hV => ?_, ?_⟩; rotate_left; go_big_quiet_on; (try simp only [Act.put, List.setIfInBounds_toArray, List.set_cons_zero, List.set_cons_succ]); rotate_right)
          · go_simp
            exact rfl
          (go_big_quiet_want; apply Exists.intro; refine ⟨fun V hV => ?_, ?_⟩; rotate_left; go_big_quiet_on; (try simp only [Act.put, List.setIfInBounds_toArray, List.set_cons_zero, List.set_cons_succ]); rotate_right)
          · go_simp
            exact rfl
          (go_big_quiet_want; apply Exists.intro; refine ⟨fun V hV => ?_, ?_⟩; rotate_left; go_big_quiet_on; (try simp only [Act.put, List.setIfInBounds_toArray, List.set_cons_zero, List.set_cons_succ]); rotate_right)
          · go_simp
            exact rfl
          (go_big_quiet_want; apply Exists.intro; refine ⟨fun V hV => ?_, ?_⟩; rotate_left; go_big_quiet_on; (try simp only [Act.put, List.setIfInBounds_toArray, List.set_cons_zero, List.set_cons_succ]); rotate_right)
          · go_simp
            exact (HRC.out V hV).mono fun e V' h => ⟨h.1, hV.trans h.2⟩
          (go_big_quiet_want; apply Exists.intro; refine ⟨fun V hV => ?_, ?_⟩; rotate_left; go_big_quiet_on; (try simp only [Act.put, List.setIfInBounds_toArray, List.set_cons_zero, List.set_cons_succ]); rotate_right)
          · go_simp
            exact rfl
          (go_big_quiet_want; apply Exists.intro; refine ⟨fun V hV => ?_, ?_⟩; rotate_left; go_big_quiet_on; (try simp only [Act.put, List.setIfInBounds_toArray, List.set_cons_zero, List.set_cons_succ]); rotate_right)
          · go_simp
            exact rfl
          (go_big_quiet_want; apply Exists.intro; refine ⟨fun V hV => ?_, ?_⟩; rotate_left; go_big_quiet_on; (try simp only [Act.put, List.setIfInBounds_toArray, List.set_cons_zero, List.set_cons_succ]); rotate_right)
          · go_simp
            exact rfl
          (go_big_quiet_want; apply Exists.intro; refine ⟨fun V hV => ?_, ?_⟩; rotate_left; go_big_quiet_on; (try simp only [Act.put, List.setIfInBounds_toArray, List.set_cons_zero, List.set_cons_succ]); rotate_right)
          · obtain ⟨g0, g3⟩ := HCL.out V hV
            go_simp
            exact rfl
          (go_big_quiet_want; apply Exists.intro; refine ⟨fun V hV => ?_, ?_⟩; rotate_left; go_big_quiet_on; (try simp only [Act.put, List.setIfInBounds_toArray, List.set_cons_zero, List.set_cons_succ]); rotate_right)
          · go_simp
            exact (HGT.out V hV).mono fun e V' h => ⟨h.1, by obtain ⟨_, j, rfl⟩ := h; exact hV.drewN j⟩
          (go_big_quiet_want; apply Exists.intro; refine ⟨fun V hV => ?_, ?_⟩; rotate_left; go_big_quiet_on; (try simp only [Act.put, List.setIfInBounds_toArray, List.set_cons_zero, List.set_cons_succ]); rotate_right)
          · go_simp
            exact rfl
          (go_big_quiet_want; apply Exists.intro; refine ⟨fun V hV => ?_, ?_⟩; rotate_left; go_big_quiet_on; (try simp only [Act.put, List.setIfInBounds_toArray, List.set_cons_zero, List.set_cons_succ]); rotate_right)
          · go_simp
            exact rfl
          refine wpQuiet_nil ?_
          intro w4 k4
          have K4 := Lib.hid k4
          clear k4
          cases dd with
          | true =>
            go_wp2_with fail
            go_ret2
            have h3 := HST.out
            rw [HD.out, if_pos rfl] at h3
            refine ⟨n2, F2, R2, rfl, ?_, K3.out.trans K4.out, HFR.out⟩
            rw [← HS1.out, h3]
            exact N3.out.kept0 K4.out
          | false =>
            go_wp2_with fail
            go_roundg g'
            case measure => omega
            case rel =>
              have h1 := HSZ.out HD.out
              have h2 := HL1.out
              have h3 := HST.out
              rw [HD.out, if_neg (by simp)] at h3
              exact ⟨n2, F2, R2, M, rfl, N3.out.kept0 K4.out, HFN.out.1, HFN.out.2, by rw [← h3]; exact HS1.out, by omega, K3.out.trans K4.out⟩
  · rw [if_neg h0]
    have h1 : ¬ (cn : Int) = 0 := by omega
    have hon := Once_c HH.out HF.out hk
    rw [← HCN.out, if_neg h0] at hon
    have HON := Lib.hid hon
    clear hon
    go_enter Tryz.func12, Tryz.ntmps12
    go_wp2_with fail
    go_loopw [0] (fun v wr => v = .pointer (some ⟨n, 0, none⟩) ∧ w = wr) (fun _ _ => 0)
    case atStart => exact ⟨rfl, rfl⟩
    case round =>
      obtain ⟨rfl, rfl⟩ := hrel
      go_wp2_with fail
      refine HON.out.mono ?_
      rintro e w1 ⟨rfl, k1⟩
      have K1 := Lib.hid k1
      clear k1
      go_wp2_with fail
      go_ret2
      exact ⟨rfl, K1.out⟩
end Go.Proofs.YtdmcdhkkbkgnbaaGreat

namespace Go.Proofs.YtdmcdhkkbkgnbaaGreat
open Go.ChangeShapes Go.WideShapes Go.ChangeAt Go.RowKit
open Go.Maps (Keyed)
open Go.WideMaps
set_option linter.unusedVariables false
set_option linter.unusedSimpArgs false

variable {w w' : World} {p n k : Nat} {F R S : List Nat} {g : Gr} {N : Nt}
set_option maxHeartbeats 800000 in
theorem rows_c (a b : Option Addr) (c d n : Nat) (l : List Nat) (w : World) (hl : l.length = n) (hn : n ≤ 1000000) (ha : SlN w .u32 a l) (hb : SlN w .u32 b l) :
    Calls Tryz.prog 110 #[.slice a n c, .slice b n d] w fun e w' => e = .returned (.bool true) ∧ ∃ k, w' = w.drewN k := by
  have HL := Lib.hid hl
  have HA := Lib.hid ha
  have HB := Lib.hid hb
  clear hl ha hb
  go_enter Tryz.func110, Tryz.ntmps110
  go_wp2_with fail
  go_loopw [5] (fun i wr => ∃ k m : Nat, k ≤ n ∧ i = .int .i64 k ∧ wr = w.drewN m) (fun i _ => n - (intOf i).toNat)
  case atStart => exact ⟨0, 0, Nat.zero_le _, rfl, rfl⟩
  case round =>
    obtain ⟨k, m, hk, rfl, rfl⟩ := hrel
    by_cases hlt : k < n
    · have hkl : k < l.length := by rw [HL.out]; exact hlt
      obtain ⟨ad, rfl, hcx⟩ := HA.out k hkl
      obtain ⟨ad2, rfl, hcy⟩ := HB.out k hkl
      generalize l[k] = x at *
      go_wp2_with fail
      go_quiet (fail)
      go_wp2_with fail
      go_roundw
      case rel => exact ⟨k + 1, _, by omega, by go_num, rfl⟩
      case measure => simp [intOf]; omega
    · go_wp2_with fail
      go_ret
      exact ⟨rfl, m, rfl⟩
def tN0 : Nt := newN ⟨#[116, 111, 112]⟩ false false
def tN1 : Nt := (addIn tN0 ⟨#[97]⟩ 2).1
def tN2 : Nt := (addReg tN1 true).1
def tN3 : Nt := (gateN tN2 andG 2 6).1
def tN4 : Nt := (setReg tN3 6 8 1).1
def tN5 : Nt := (addOut tN4 ⟨#[120]⟩ [9]).1
def tN6 : Nt := { tN5 with g := (inputG tN5.g).1 }
set_option maxRecDepth 100000 in
theorem t_facts : mayB ⟨#[116, 111, 112]⟩ = true ∧ (addIn tN0 ⟨#[97]⟩ 2).2 = ([2, 4], 0) ∧ (addReg tN1 true).2 = 6 ∧ (gateN tN2 andG 2 6).2 = ([8], 0) ∧ (setReg tN3 6 8 1).2 = 0 ∧ (addOut tN4 ⟨#[120]⟩ [9]).2 = 0 ∧ checkN tN5 = 0 ∧ 2 * tN5.g.nodes.length = 10 ∧ checkN tN6 = 37 := by
  refine ⟨by kernel_rfl, by kernel_rfl, by kernel_rfl, by kernel_rfl, by kernel_rfl, by kernel_rfl, by kernel_rfl, by kernel_rfl, by kernel_rfl⟩
theorem t_fine : NtFine 5 tN5 := addOut_fine (setReg_fine (gateN_fine (addReg_fine (addIn_fine (newN_fine _ false false t_facts.1) _ _) _) _ two_and _ _) _ _ _) _ _
theorem t_fine6 : NtFine 6 tN6 := fine_graph t_fine (t_fine.ok.graph (inputG_spec t_fine.ok.wf).1 (by simp [inputG]) (by simp [inputG])) (fun i hi => by rw [(inputG_spec t_fine.ok.wf).2.2]; exact List.mem_append_left _ hi)
end Go.Proofs.YtdmcdhkkbkgnbaaGreat

namespace Go.Proofs.YtdmcdhkkbkgnbaaGreat
open Go.ChangeShapes Go.WideShapes Go.ChangeAt Go.RowKit
open Go.Maps (Keyed)
open Go.WideMaps
set_option linter.unusedVariables false
set_option linter.unusedSimpArgs false

variable {w w' W W' : World} {p n k : Nat} {F R F' R' S : List Nat} {g : Gr} {N : Nt}
theorem NStep.up (hk : Kept [] w W) (hf : ∀ b ∈ F, w.heap.size ≤ b) (hs : NStep W W' F R F' R') : Kept [] w W' ∧ ∀ b ∈ F', w.heap.size ≤ b :=
  ⟨kept_up hk hs.st.kept hf, fun b hb => (hs.st.fresh b hb).elim (hf b) (Nat.le_trans hk.size)⟩
theorem own_net {e : TypeId} {a : Option Addr} {m c : Nat} {xs : List Value} (ho : Own W e a m c xs) (hf : ∀ b ∈ ft a, b ∉ F ∧ b ∉ R) (hs : NStep W W' F R F' R') : Own W' e a m c xs ∧ ∀ b ∈ ft a, b ∉ F' ∧ b ∉ R' :=
  ⟨ho.kept hs.st.kept (fun b hb => (hf b hb).1), fun b hb => ⟨fun h => (hs.st.fresh b h).elim (hf b hb).1 (fun h2 => by have := ho.lt b hb; omega), fun h => (hs.rows b h).elim (hf b hb).2 (fun h2 => by have := ho.lt b hb; omega)⟩⟩
theorem row_new (w : World) (l : List Nat) (T : TypeId) : SlN (w.alloc (.cells (nats .u32 l).toArray T)) .u32 (some ⟨w.heap.size, 0, none⟩) l := sln_new w .u32 l T
end Go.Proofs.YtdmcdhkkbkgnbaaGreat

namespace Go.Proofs.YtdmcdhkkbkgnbaaGreat
open Go.ChangeShapes Go.WideShapes Go.ChangeAt Go.RowKit
open Go.Maps (Keyed)
open Go.WideMaps
set_option linter.unusedVariables false
set_option linter.unusedSimpArgs false

/-- buses in memory: where the row lies, its capacity, what each refers to -/
structure RBusesAt (w : World) (a : Option Addr) (c : Nat) (l : List Bus) (rs : List BR) : Prop where
  own : w.ownsRow 0 106 2 (.slice a l.length c) l.length (brCells rs)
  is : rs.map (·.b) = l
  rows : ∀ r ∈ rs, SlN w .u32 r.a r.b.lits ∧ (∀ b ∈ ft r.a, b < w.heap.size)
variable {w w' : World} {p n : Nat} {F R S : List Nat} {g : Gr} {N : Nt}
theorem RBusesAt.kept {a : Option Addr} {c : Nat} {l : List Bus} {rs : List BR} (h : RBusesAt w a c l rs) (hk : Kept S w w') (h1 : ∀ b ∈ ft a, b ∉ S) (h2 : ∀ b ∈ rowsOf rs, b ∉ S) : RBusesAt w' a c l rs :=
  ⟨own_kept h.own hk h1, h.is, fun r hr => ⟨(h.rows r hr).1.kept hk (fun b hb => h2 b (mem_rowsOf.2 ⟨r, hr, hb⟩)), fun b hb => Nat.lt_of_lt_of_le ((h.rows r hr).2 b hb) hk.size⟩⟩
theorem RBusesAt.lt {a : Option Addr} {c : Nat} {l : List Bus} {rs : List BR} (h : RBusesAt w a c l rs) : (∀ b ∈ ft a, b < w.heap.size) ∧ ∀ b ∈ rowsOf rs, b < w.heap.size :=
  ⟨owns_lt h.own, fun b hb => by obtain ⟨r, hr, hb⟩ := mem_rowsOf.1 hb; exact (h.rows r hr).2 b hb⟩
structure RNetC (w : World) (n : Nat) (N : Nt) (p : Nat) (G : List Nat) (ia : Option Addr) (ic : Nat) (ra : Option Addr) (rc : Nat) (oa : Option Addr) (oc : Nat) (ri ro : List BR) : Prop where
  blk : w.heap[n]? = some (.cells (nCells p N ia ic ra rc oa oc) 44 (0, 0))
  gr : RefAt w p G N.g
  ib : RBusesAt w ia ic N.inb ri
  rb : w.ownsRow 0 48 4 (.slice ra N.regs.length rc) N.regs.length (rgCells N.regs)
  ob : RBusesAt w oa oc N.outb ro
  io : ∀ b ∈ ft ia, b ∉ ft oa
  fr : ∀ b ∈ rowsOf ri ++ rowsOf ro, b ∉ n :: (G ++ (ft ia ++ (ft ra ++ ft oa)))
/-- what may be written, what is referred to -/
def RNetAt (w : World) (n : Nat) (F R : List Nat) (N : Nt) : Prop :=
  ∃ p G ia ic ra rc oa oc ri ro, F = n :: (G ++ (ft ia ++ (ft ra ++ ft oa))) ∧ R = rowsOf ri ++ rowsOf ro ∧ RNetC w n N p G ia ic ra rc oa oc ri ro
theorem RefAt.apart (h : RefAt w p F g) {e : TypeId} {size n cap : Nat} {a : Option Addr} {xs : List Value} (ho : w.ownsRow 0 e size (.slice a n cap) n xs) (h1 : e ≠ 103) (h2 : e ≠ 124) : ∀ b ∈ ft a, b ∉ F := by
  obtain ⟨an, cn, rfl, hc⟩ := h
  intro b hb hf
  rcases List.mem_cons.1 hf with rfl | hf
  · exact blk_apart hc.blk ho h1 hb
  · exact owns_apart ho hc.nodes h2 b hb hf
theorem RefAt.apart_blk (h : RefAt w p F g) {b : Nat} {cs : Array Value} {t : TypeId} (hb : w.heap[b]? = some (.cells cs t (0, 0))) (h1 : t ≠ 103) (h2 : t ≠ 124) : b ∉ F := by
  obtain ⟨an, cn, rfl, hc⟩ := h
  intro hf
  rcases List.mem_cons.1 hf with rfl | hf
  · rw [hc.blk] at hb; injection hb with hb; injection hb with _ ht; exact h1 ht.symm
  · exact blk_apart hb hc.nodes h2.symm hf
theorem RNetC.kept {G : List Nat} {ia ra oa : Option Addr} {ic rc oc : Nat} {ri ro : List BR} (h : RNetC w n N p G ia ic ra rc oa oc ri ro) (hk : Kept S w w') (h1 : ∀ b ∈ n :: (G ++ (ft ia ++ (ft ra ++ ft oa))), b ∉ S) (h2 : ∀ b ∈ rowsOf ri ++ rowsOf ro, b ∉ S) : RNetC w' n N p G ia ic ra rc oa oc ri ro :=
  ⟨hk.heap h.blk (h1 _ (by simp)), h.gr.kept hk (fun b hb => h1 b (by simp [hb])), h.ib.kept hk (fun b hb => h1 b (by simp [hb])) (fun b hb => h2 b (by simp [hb])), own_kept h.rb hk (fun b hb => h1 b (by simp [hb])),
    h.ob.kept hk (fun b hb => h1 b (by simp [hb])) (fun b hb => h2 b (by simp [hb])), h.io, h.fr⟩
theorem RNetAt.kept (h : RNetAt w n F R N) (hk : Kept S w w') (h1 : ∀ b ∈ F, b ∉ S) (h2 : ∀ b ∈ R, b ∉ S) : RNetAt w' n F R N := by
  obtain ⟨p, G, ia, ic, ra, rc, oa, oc, ri, ro, rfl, rfl, hc⟩ := h
  exact ⟨p, G, ia, ic, ra, rc, oa, oc, ri, ro, rfl, rfl, hc.kept hk h1 h2⟩
theorem RNetAt.kept0 (h : RNetAt w n F R N) (hk : Kept [] w w') : RNetAt w' n F R N := h.kept hk (by simp) (by simp)
theorem RNetC.lt {G : List Nat} {ia ra oa : Option Addr} {ic rc oc : Nat} {ri ro : List BR} (h : RNetC w n N p G ia ic ra rc oa oc ri ro) : (∀ b ∈ n :: (G ++ (ft ia ++ (ft ra ++ ft oa))), b < w.heap.size) ∧ ∀ b ∈ rowsOf ri ++ rowsOf ro, b < w.heap.size := by
  refine ⟨fun b hb => ?_, fun b hb => ?_⟩
  · simp only [List.mem_cons, List.mem_append] at hb
    rcases hb with rfl | hb | hb | hb | hb
    · exact blk_lt h.blk
    · exact h.gr.lt b hb
    · exact h.ib.lt.1 b hb
    · exact owns_lt h.rb b hb
    · exact h.ob.lt.1 b hb
  · rcases List.mem_append.1 hb with hb | hb
    · exact h.ib.lt.2 b hb
    · exact h.ob.lt.2 b hb
theorem RNetAt.lt (h : RNetAt w n F R N) : (∀ b ∈ F, b < w.heap.size) ∧ ∀ b ∈ R, b < w.heap.size := by
  obtain ⟨p, G, ia, ic, ra, rc, oa, oc, ri, ro, rfl, rfl, hc⟩ := h
  exact hc.lt
theorem RNetC.apart {G : List Nat} {ia ra oa : Option Addr} {ic rc oc : Nat} {ri ro : List BR} (h : RNetC w n N p G ia ic ra rc oa oc ri ro) :
    n ∉ G ∧ n ∉ ft ia ∧ n ∉ ft ra ∧ n ∉ ft oa ∧ (∀ b ∈ ft ia, b ∉ G) ∧ (∀ b ∈ ft ra, b ∉ G) ∧ (∀ b ∈ ft oa, b ∉ G) ∧ (∀ b ∈ ft ra, b ∉ ft ia) ∧ (∀ b ∈ ft ra, b ∉ ft oa) :=
  ⟨h.gr.apart_blk h.blk (by decide) (by decide), blk_apart h.blk h.ib.own (by decide), blk_apart h.blk h.rb (by decide), blk_apart h.blk h.ob.own (by decide),
    h.gr.apart h.ib.own (by decide) (by decide), h.gr.apart h.rb (by decide) (by decide), h.gr.apart h.ob.own (by decide) (by decide), owns_apart h.rb h.ib.own (by decide), owns_apart h.rb h.ob.own (by decide)⟩
section
variable {G : List Nat} {ia ra oa : Option Addr} {ic rc oc : Nat} {ri ro : List BR}
theorem RNetC.c0 (h : RNetC w n N p G ia ic ra rc oa oc ri ro) : w.cell? ⟨n, 0, none⟩ = some (.pointer (some ⟨p, 0, none⟩)) := blk_cell h.blk 0
theorem RNetC.c1 (h : RNetC w n N p G ia ic ra rc oa oc ri ro) : w.cell? ⟨n, 1, none⟩ = some (.string N.name) := blk_cell h.blk 1
theorem RNetC.c2 (h : RNetC w n N p G ia ic ra rc oa oc ri ro) : w.cell? ⟨n, 2, none⟩ = some (.slice ia N.inb.length ic) := blk_cell h.blk 2
theorem RNetC.c3 (h : RNetC w n N p G ia ic ra rc oa oc ri ro) : w.cell? ⟨n, 3, none⟩ = some (.slice ra N.regs.length rc) := blk_cell h.blk 3
theorem RNetC.c4 (h : RNetC w n N p G ia ic ra rc oa oc ri ro) : w.cell? ⟨n, 4, none⟩ = some (.slice oa N.outb.length oc) := blk_cell h.blk 4
/-- a step of the graph -/
theorem RNetC.graph {G' : List Nat} {g' : Gr} (h : RNetC w n N p G ia ic ra rc oa oc ri ro) (hg : RefAt w' p G' g') (hst : Stepped w w' G G') : RNetC w' n { N with g := g' } p G' ia ic ra rc oa oc ri ro := by
  obtain ⟨a1, a2, a3, a4, a5, a6, a7, a8, a9⟩ := h.apart
  have fr := h.fr
  have lt := h.lt
  simp only [List.mem_cons, List.mem_append, not_or] at fr
  refine ⟨hst.kept.heap h.blk a1, hg, h.ib.kept hst.kept a5 (fun b hb => (fr b (.inl hb)).2.1), own_kept h.rb hst.kept a6, h.ob.kept hst.kept a7 (fun b hb => (fr b (.inr hb)).2.1), h.io, fun b hb => ?_⟩
  have f := fr b (List.mem_append.1 hb)
  have l := lt.2 b hb
  simp only [List.mem_cons, List.mem_append, not_or]
  exact ⟨f.1, fun hx => by rcases hst.fresh b hx with hx | hx; exact f.2.1 hx; omega, f.2.2⟩
theorem RNetC.graph_step {G' : List Nat} (hst : Stepped w w' G G') : NStep w w' (n :: (G ++ (ft ia ++ (ft ra ++ ft oa)))) (rowsOf ri ++ rowsOf ro) (n :: (G' ++ (ft ia ++ (ft ra ++ ft oa)))) (rowsOf ri ++ rowsOf ro) := by
  refine ⟨⟨hst.kept.more (fun b hb => by simp [hb]), fun b hb => ?_⟩, fun b hb => .inl hb⟩
  simp only [List.mem_cons, List.mem_append] at hb ⊢
  rcases hb with hb | hb | hb
  · exact .inl (.inl hb)
  · rcases hst.fresh b hb with h | h
    · exact .inl (.inr (.inl h))
    · exact .inr h
  · exact .inl (.inr (.inr hb))
end
end Go.Proofs.YtdmcdhkkbkgnbaaGreat
