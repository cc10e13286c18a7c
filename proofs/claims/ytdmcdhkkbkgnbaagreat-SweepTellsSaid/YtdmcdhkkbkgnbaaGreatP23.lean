/-
  Package sweep: Needed.
  Package sweep: Needed.
-/
import Derived.Test.YtdmcdhkkbkgnbaaGreatP22
namespace Go.Proofs.YtdmcdhkkbkgnbaaGreat
open Go.ChangeShapes Go.WideShapes Go.ChangeAt Go.RowKit
open Go.Maps (Keyed)
open Go.WideMaps
set_option linter.unusedVariables false
set_option linter.unusedSimpArgs false

variable {w w' W w0 : World} {p n k m bn bt bp bd mp gd : Nat} {F R S : List Nat} {g : Gr} {N : Nt} {nd : List Bool} {todo : List Nat}
/-- the places of the first registers -/
def plTo (N : Nt) (m : Nat) : Nat → Option Nat := fun node => placeR (N.regs.take m) node
theorem plTo_zero (N : Nt) : plTo N 0 = fun _ => none := by funext x; rfl
theorem plTo_all (N : Nt) : plTo N N.regs.length = placeR N.regs := by funext x; unfold plTo; rw [List.take_length]
theorem plTo_succ (hf : NtFine k N) {m : Nat} (hm : m < N.regs.length) : (fun y => if y = (N.regs.getD m ⟨0, 0, 0, false⟩).q / 2 then some m else plTo N m y) = plTo N (m + 1) := by
  funext y
  unfold plTo
  have ha := (regs_apart hf).2
  have e : N.regs.getD m ⟨0, 0, 0, false⟩ = N.regs[m] := by rw [List.getD_eq_getElem?_getD, List.getElem?_eq_getElem hm]; rfl
  rw [List.take_succ_eq_append_getElem hm]
  unfold placeR
  rw [List.findIdx?_append]
  by_cases hy : y = (N.regs.getD m ⟨0, 0, 0, false⟩).q / 2
  · rw [if_pos hy]
    have hnone : (N.regs.take m).findIdx? (fun r => decide (r.q / 2 = y)) = none := by
      rw [List.findIdx?_eq_none_iff]
      intro r hr
      obtain ⟨i, hi, rfl⟩ := List.getElem_of_mem hr
      rw [List.length_take] at hi
      have hil : i < N.regs.length := by omega
      simp only [List.getElem_take, decide_eq_false_iff_not]
      intro hh
      have e2 : N.regs.getD i ⟨0, 0, 0, false⟩ = N.regs[i] := by rw [List.getD_eq_getElem?_getD, List.getElem?_eq_getElem hil]; rfl
      have := ha i m hil hm (by rw [e2, hh, hy])
      omega
    rw [hnone]
    simp only [List.findIdx?_singleton]
    rw [e] at hy
    simp [hy, Nat.min_eq_left (Nat.le_of_lt hm)]
  · rw [if_neg hy]
    rw [e] at hy
    have hne : ¬ (N.regs[m].q / 2 = y) := fun h => hy h.symm
    simp only [List.findIdx?_singleton, hne, decide_false]
    cases (N.regs.take m).findIdx? (fun r => decide (r.q / 2 = y)) <;> simp
end Go.Proofs.YtdmcdhkkbkgnbaaGreat

namespace Go.Proofs.YtdmcdhkkbkgnbaaGreat
open Go.ChangeShapes Go.WideShapes Go.ChangeAt Go.RowKit
open Go.Maps (Keyed)
open Go.WideMaps
set_option linter.unusedVariables false
set_option linter.unusedSimpArgs false

variable {w w' W w0 : World} {p n k m bn bt bp bd mp gd : Nat} {F R S : List Nat} {g : Gr} {N : Nt} {nd : List Bool} {todo : List Nat}
set_option maxHeartbeats 3200000 in
set_option maxRecDepth 100000 in
theorem Needed_c (h : NetAt w n F R N) (hf : NtFine k N) (hk : k ≤ 700) : Calls Tryz.prog 8 #[.pointer (some ⟨n, 0, none⟩)] w (if checkN N = 0 then BoolsNew (neededN N) w else BoolsNone (checkN N) w) := by
  have HCK := Lib.hid (fun V (hV : Kept [] w V) => check_c (h.kept0 hV) hf hk)
  have HF := Lib.hid hf
  have HH := Lib.hid h
  obtain ⟨cn, hcn⟩ : ∃ c, c = checkN N := ⟨_, rfl⟩
  rw [← hcn] at HCK ⊢
  clear hcn h hf
  by_cases h0 : cn = 0
  · rw [if_pos h0]
    subst h0
    have hmm := @run_makeMap Tryz.prog
    go_enter Tryz.func8, Tryz.ntmps8
    go_wp2_with fail
    obtain ⟨w1, hw1⟩ : ∃ v, v = w.alloc (.cells #[.pointer (some ⟨n, 0, none⟩)] 25) := ⟨_, rfl⟩
    obtain ⟨bn, hbn⟩ : ∃ v, v = w.heap.size := ⟨_, rfl⟩
    have hcn1 : w1.heap[bn]? = some (.cells #[.pointer (some ⟨n, 0, none⟩)] 25 (0, 0)) := by rw [hw1, hbn]; exact heap_alloc_new w _
    have K1 := Lib.hid (show Kept [] w w1 from by rw [hw1]; exact (Kept.refl [] w).alloc _)
    rw [← hw1, ← hbn]
    refine (HCK.out _ K1.out).mono ?_
    rintro e w2 ⟨rfl, k2⟩
    have K2 := Lib.hid (K1.out.trans k2)
    have hcn2 := k2.heap hcn1 (by simp)
    have cbn2 : w2.cell? ⟨bn, 0, none⟩ = some (.pointer (some ⟨n, 0, none⟩)) := blk_cell hcn2 0
    have HB := Lib.hid hbn
    clear k2 hcn1 hw1 hbn
    go_upto_region 5 with (fail)
    have hmp2 := MapV.new w2 Tryz.prog 3
    rw [intF_none, ← plTo_zero N] at hmp2
    obtain ⟨w3, hw3⟩ : ∃ v, v = w2.alloc (Obj.map #[] 0) := ⟨_, rfl⟩
    obtain ⟨mp, hmp⟩ : ∃ v, v = w2.heap.size := ⟨_, rfl⟩
    have K23 : Kept [] w2 w3 := by rw [hw3]; exact (Kept.refl [] w2).alloc _
    have hsz3 : w2.heap.size + 1 = w3.heap.size := by rw [hw3]; simp
    try rw [hsz3]
    rw [← hw3, ← hmp] at hmp2
    rw [← hw3, ← hmp]
    obtain ⟨w4, hw4⟩ : ∃ v, v = w3.alloc (Obj.cells #[Value.map (some mp)] 71) := ⟨_, rfl⟩
    obtain ⟨bp, hbp⟩ : ∃ v, v = w3.heap.size := ⟨_, rfl⟩
    rw [← hw4, ← hbp]
    have K34 : Kept [] w3 w4 := by rw [hw4]; exact (Kept.refl [] w3).alloc _
    have hcp4 : w4.heap[bp]? = some (.cells #[Value.map (some mp)] 71 (0, 0)) := by rw [hw4, hbp]; exact heap_alloc_new w3 _
    have hcn4 := (K23.trans K34).heap hcn2 (by simp)
    have hpm4 : PlMap w4 mp (plTo N 0) := MapV.kept hmp2 K34 (by simp)
    have K4 := Lib.hid (K2.out.trans (K23.trans K34))
    have HMP := Lib.hid (show w.heap.size ≤ mp from by rw [hmp]; exact K2.out.size)
    have HBP := Lib.hid (show w.heap.size ≤ bp from by rw [hbp]; exact Nat.le_trans K2.out.size K23.size)
    clear hw3 hw4 hbp hmp hsz3 hcn2 cbn2 K23 K34 hmp2
    obtain ⟨pp, G, ia, ic, ra, rc, oa, oc, ri, ro, hFe, hRe, hc⟩ := HH.out
    have HC := Lib.hid hc
    obtain ⟨nR, hnR⟩ : ∃ m, m = N.regs.length := ⟨_, rfl⟩
    have HNR := Lib.hid hnR
    have hnr : nR ≤ 700 := by rw [hnR]; have := HF.out.ok.rk; omega
    have HSR := Lib.hid (fun (V : World) (hV : Kept [] w V) => (regs_sl (l := N.regs) rfl hc.rb).kept0 hV)
    have c3w := K4.out.cell hc.c3 (by simp)
    rw [← hnR] at c3w
    have cbn4 : w4.cell? ⟨bn, 0, none⟩ = some (.pointer (some ⟨n, 0, none⟩)) := blk_cell hcn4 0
    have HCN4 := Lib.hid hcn4
    have HCP4 := Lib.hid hcp4
    have HPM4 := Lib.hid hpm4
    have HNB := Lib.hid (show bn ≠ mp from hpm4.nocell hcn4)
    have HPB := Lib.hid (show bp ≠ mp from hpm4.nocell hcp4)
    clear hc hnR hcn4 hcp4 hpm4 hFe hRe
    go_wp2_with fail
    go_loopw [22] (fun v wr => ∃ i : Nat, i ≤ nR ∧ v = .int .i64 i ∧ PlMap wr mp (plTo N i) ∧ Kept [mp] w4 wr) (fun v _ => nR - (intOf v).toNat)
    case atStart => exact ⟨0, Nat.zero_le _, rfl, HPM4.out, .refl _ _⟩
    case round =>
      obtain ⟨i, hi, rfl, hpm, hkr⟩ := hrel
      have PM := Lib.hid hpm
      have KR := Lib.hid hkr
      have KW := Lib.hid (show Kept [] w wr from kept_up K4.out hkr (fun b hb => by simp at hb; subst hb; exact HMP.out))
      by_cases hlt : i < nR
      · have hil : i < N.regs.length := by rw [← HNR.out]; exact hlt
        obtain ⟨gr, rfl, e0, e1, e2, e3⟩ := HSR.out wr KW.out i hil
        have HPS := Lib.hid (plTo_succ HF.out hil)
        have hq : N.regs[i].q < 4294967296 := by
          have := HF.out.ok.rl _ (List.getElem_mem hil)
          have h1 := this.1
          have h2 := HF.out.ok.len
          unfold Gr.ok at h1
          omega
        have hgd : N.regs.getD i ⟨0, 0, 0, false⟩ = N.regs[i]'hil := by rw [List.getD_eq_getElem?_getD, List.getElem?_eq_getElem hil]; rfl
        rw [hgd] at HPS
        generalize N.regs[i] = r at *
        obtain ⟨q, d, en, init⟩ := r
        simp only at e0 e1 e2 e3 HPS hq
        have i0 : (0 : Int) ≤ (i : Int) := by omega
        have i1 : (i : Int) < (nR : Int) := by omega
        have hbpc := hkr.heap HCP4.out (by simpa using HPB.out)
        clear hpm hkr hil c3w cbn4
        go_upto_region 8 with (fail)
        obtain ⟨w5, hw5⟩ : ∃ v, v = wr.alloc (.cells #[.int .u32 (q : Int), .int .u32 (d : Int), .int .u32 (en : Int), .bool init] 63) := ⟨_, rfl⟩
        obtain ⟨b5, hb5⟩ : ∃ v, v = wr.heap.size := ⟨_, rfl⟩
        have K5 := Lib.hid (show Kept [] wr w5 from by rw [hw5]; exact (Kept.refl [] wr).alloc _)
        have hbl : w5.heap[b5]? = some (.cells #[.int .u32 (q : Int), .int .u32 (d : Int), .int .u32 (en : Int), .bool init] 63 (0, 0)) := by rw [hw5, hb5]; exact heap_alloc_new wr _
        have d0 : w5.cell? ⟨b5, 0, none⟩ = some (.int .u32 (q : Int)) := blk_cell hbl 0
        have d1 : w5.cell? ⟨bp, 0, none⟩ = some (.map (some mp)) := blk_cell (K5.out.heap hbpc (by simp)) 0
        rw [← hw5, ← hb5]
        have HQ := Lib.hid hq
        have HND := Lib.hid (fun V => lit_node q V hq)
        obtain ⟨q2, hq2⟩ : ∃ v, v = q / 2 := ⟨_, rfl⟩
        rw [← hq2] at HPS HND
        have HQ2 := Lib.hid (show q2 < 4294967296 from by omega)
        clear hw5 hb5 hbl e0 e1 e2 e3 hbpc hgd hq hq2
        refine wp_region_still_tail 5 (by kernel_rfl) (by kernel_rfl) ?_
        simp only [List.take_succ_cons, List.take_zero, List.drop_succ_cons, List.drop_zero]
        repeat still_step
        still_call ((HND.out _).mono fun _ _ ⟨h1, h2⟩ => ⟨h1, h2.symm⟩)
        repeat still_step
        refine wpStill_nil ?_
        change wpList _ _ _ _ _ w5.drew
        have HP5 := Lib.hid (show PlMap w5.drew mp (plTo N i) from MapV.kept (F := []) PM.out (K5.out.trans (by with_reducible apply Kept.drew; exact .refl _ _)) (by simp))
        have K6 := Lib.hid (show Kept [] wr w5.drew from K5.out.trans (by with_reducible apply Kept.drew; exact .refl _ _))
        refine wpList_upd (key := .int .i64 (q2 : Nat)) (val := .int .i64 (i : Nat)) rfl rfl i64_law Tryz.underlying71 rfl rfl rfl HP5.out (i64_key _ HQ2.out) ?_
        intro w6 hm6 hk6
        rw [intF_upd] at hm6
        have hm7 : PlMap w6 mp (plTo N (i + 1)) := by rw [← HPS.out]; exact hm6
        have HM7 := Lib.hid hm7
        have HK6 := Lib.hid (KR.out.trans ((K6.out.more (by simp)).trans hk6))
        clear hm6 hk6 hm7 d0 d1
        go_wp2_with fail
        go_roundw
        case rel => exact ⟨i + 1, by omega, by go_num, HM7.out, HK6.out⟩
        case measure => simp [intOf]; omega
      · obtain rfl : i = nR := by omega
        obtain ⟨wl, hwl⟩ : ∃ v : World, v = wr := ⟨_, rfl⟩
        have hcn := hkr.heap HCN4.out (by simpa using HNB.out)
        have hcp := hkr.heap HCP4.out (by simpa using HPB.out)
        have cbn : wr.cell? ⟨bn, 0, none⟩ = some (.pointer (some ⟨n, 0, none⟩)) := blk_cell hcn 0
        have c3 := KW.out.cell HC.out.c3 (by simp)
        rw [← HNR.out] at c3
        have PM2 := Lib.hid (show PlMap wr mp (placeR N.regs) from by have h := PM.out; rw [HNR.out, plTo_all] at h; exact h)
        clear hpm hkr c3w cbn4 PM HPM4
        go_upto_region 11 with (at_make; refine wpList_mk rfl rfl Tryz.underlying29 bool_info rfl rfl rfl (by omega) (by unfold maxLen; omega) ?_; intro w5 hown5 hst5; rw [bls_replicate] at hown5; have c3w := hst5.kept.cell c3 (by simp))
        skip
        obtain ⟨gd, hgd⟩ : ∃ v, v = wr.heap.size := ⟨_, rfl⟩
        rw [← hgd] at hown5 hst5 ⊢
        have HGD := Lib.hid (show w.heap.size ≤ gd from by rw [hgd]; exact KW.out.size)
        have K5 := Lib.hid (KW.out.trans hst5.kept)
        obtain ⟨w6, hw6⟩ : ∃ v, v = w5.alloc (.cells #[.slice (some ⟨gd, 0, none⟩) i i] 29) := ⟨_, rfl⟩
        obtain ⟨bd, hbd⟩ : ∃ v, v = w5.heap.size := ⟨_, rfl⟩
        have K56 : Kept [] w5 w6 := by rw [hw6]; exact (Kept.refl [] w5).alloc _
        have hcd6 : w6.heap[bd]? = some (.cells #[.slice (some ⟨gd, 0, none⟩) i i] 29 (0, 0)) := by rw [hw6, hbd]; exact heap_alloc_new w5 _
        rw [← hw6, ← hbd]
        have HBD := Lib.hid (show w.heap.size ≤ bd from by rw [hbd]; exact K5.out.size)
        have K6 := Lib.hid (K5.out.trans K56)
        have K56r := Lib.hid (hst5.kept.trans K56)
        have hown6 := hown5.kept0 K56
        have hcn6 := (hst5.kept.trans K56).heap hcn (by simp)
        have hcp6 := (hst5.kept.trans K56).heap hcp (by simp)
        have PM6 := Lib.hid (MapV.kept (F := []) PM2.out K56r.out (by simp))
        have cbn6 : w6.cell? ⟨bn, 0, none⟩ = some (.pointer (some ⟨n, 0, none⟩)) := blk_cell hcn6 0
        have HOU := Lib.hid (outs_c (HH.out.kept0 K6.out) HF.out hk)
        have HCN6 := Lib.hid hcn6
        have HCP6 := Lib.hid hcp6
        have HCD6 := Lib.hid hcd6
        have HOW6 := Lib.hid hown6
        have HBNS := Lib.hid (show w.heap.size ≤ bn from by rw [HB.out]; exact Nat.le_refl _)
        clear hw6 hbd hcn6 hcp6 hcd6 hown6 K56 hown5 hst5 hgd hcn hcp cbn c3 c3w
        go_wp2_with fail
        refine HOU.out.mono ?_
        rintro e w7 ⟨a7, c7, rfl, ho7, k7, hf7⟩
        have K7 := Lib.hid (K6.out.trans k7)
        obtain ⟨nO, hnO⟩ : ∃ v, v = (outsN N).length := ⟨_, rfl⟩
        rw [← hnO] at ho7 ⊢
        have HNO := Lib.hid hnO
        have HO7 := Lib.hid ho7
        have HF7 := Lib.hid (show ∀ b ∈ ft a7, w.heap.size ≤ b from fun b hb => Nat.le_trans K6.out.size (hf7 b hb))
        have HCN7 := Lib.hid (k7.heap HCN6.out (by simp))
        have HCP7 := Lib.hid (k7.heap HCP6.out (by simp))
        have HCD7 := Lib.hid (k7.heap HCD6.out (by simp))
        have HOW7 := Lib.hid (HOW6.out.kept0 k7)
        have PM7 := Lib.hid (MapV.kept (F := []) PM6.out k7 (by simp))
        clear ho7 hf7 hnO k7 cbn6 HOU
        go_upto_region 12 with (fail)
        obtain ⟨w8, hw8⟩ : ∃ v, v = w7.alloc (.cells #[.slice a7 nO c7] 58) := ⟨_, rfl⟩
        obtain ⟨bt, hbt⟩ : ∃ v, v = w7.heap.size := ⟨_, rfl⟩
        have K78 : Kept [] w7 w8 := by rw [hw8]; exact (Kept.refl [] w7).alloc _
        have hct8 : w8.heap[bt]? = some (.cells #[.slice a7 nO c7] 58 (0, 0)) := by rw [hw8, hbt]; exact heap_alloc_new w7 _
        rw [← hw8, ← hbt]
        have HMA := Lib.hid (show MoreAt w w8 n bn bt bp bd mp gd N (List.replicate N.regs.length false) (outsN N) from by
          rw [HNR.out] at HCD7 HOW7
          refine ⟨K78.heap HCN7.out (by simp), K78.heap HCP7.out (by simp), K78.heap HCD7.out (by simp), ⟨a7, c7, ?_, ?_, HF7.out⟩, MapV.kept PM7.out K78 (by simp), HOW7.out.kept0 K78, K7.out.trans K78, ?_⟩
          · rw [← HNO.out]; exact hct8
          · rw [← HNO.out]; exact HO7.out.kept0 K78
          · intro b hb
            simp only [List.mem_cons, List.not_mem_nil, or_false] at hb
            rcases hb with rfl | rfl | rfl | rfl | rfl | rfl
            · exact HBNS.out
            · rw [hbt]; exact K7.out.size
            · exact HBP.out
            · exact HBD.out
            · exact HMP.out
            · exact HGD.out)
        clear hw8 hbt K78 hct8
        go_wp2_with fail
        go_loopg [] (N.regs.length + 1) (fun gf wz => ∃ (nd : List Bool) (todo : List Nat), MoreAt w wz n bn bt bp bd mp gd N nd todo ∧ nd.length = N.regs.length ∧ todo.length ≤ 200000 ∧ (∀ x ∈ todo, N.g.ok x) ∧ falses nd < gf ∧ needGo N gf nd todo = neededN N)
        case atStart =>
          refine ⟨_, _, HMA.out, by simp, ?_, outs_ok HF.out, Nat.lt_succ_of_le (Nat.le_trans (List.countP_le_length (l := List.replicate N.regs.length false)) (by simp)), rfl⟩
          have h1 := outsTo_len HF.out N.outb.length
          rw [outsTo_all] at h1
          have := HF.out.ok.ok
          omega
        case round =>
          obtain ⟨nd, todo, hma, hnl, htl, hok, hfl, hgo⟩ := hrel
          obtain ⟨g', rfl⟩ : ∃ g', gk = g' + 1 := ⟨gk - 1, by omega⟩
          have HMO := Lib.hid (more_c HH.out HF.out hk hma hnl htl hok)
          have HME := Lib.hid (show MeetOk N nd (supportL N.g.nodes todo) (moreR N nd todo) from meet_all hnl (supportL N.g.nodes todo))
          have HGO := Lib.hid hgo
          have HFL := Lib.hid hfl
          have HNL := Lib.hid hnl
          clear hma hnl htl hok hfl hgo
          go_wp2_with fail
          refine HMO.out.mono ?_
          rintro e w9 ⟨rfl, m9⟩
          have M9 := Lib.hid m9
          clear m9
          by_cases he : (moreR N nd todo).2 = []
          · have hd : decide (0 < (moreR N nd todo).2.length) = false := by rw [he]; rfl
            rw [hd]
            have HR := Lib.hid (show (moreR N nd todo).1 = neededN N from by
              have h := HGO.out
              rw [show needGo N (g' + 1) nd todo = if (moreR N nd todo).2 = [] then (moreR N nd todo).1 else needGo N g' (moreR N nd todo).1 (moreR N nd todo).2 from rfl, if_pos he] at h
              exact h)
            have cbd : w9.cell? ⟨bd, 0, none⟩ = some (.slice (some ⟨gd, 0, none⟩) N.regs.length N.regs.length) := blk_cell M9.out.cd 0
            clear he hd
            go_wp2_with fail
            go_ret2
            have hl : (neededN N).length = N.regs.length := by rw [← HR.out]; exact HME.out.len
            refine ⟨gd, by rw [hl]; rfl, ?_, M9.out.kept, HGD.out⟩
            rw [hl, ← HR.out]
            exact M9.out.own
          · have hd : decide (0 < (moreR N nd todo).2.length) = true := by
              rw [decide_eq_true_eq]
              exact List.length_pos_iff.2 he
            rw [hd]
            have HE := Lib.hid he
            clear he hd
            go_wp2_with fail
            go_roundg g'
            case measure => omega
            case rel =>
              have h1 := HME.out.cnt.2 HE.out
              have h2 := HFL.out
              have h3 := HME.out.twice
              refine ⟨_, _, M9.out, HME.out.len, ?_, fun x hx => ?_, by omega, ?_⟩
              · have h4 : falses nd ≤ nd.length := List.countP_le_length
                have h5 := HF.out.ok.rk
                have h6 := HNL.out
                omega
              · obtain ⟨j, j1, _, _, j4⟩ := HME.out.tod x hx
                have := HF.out.ok.rl _ (getD_regs j1)
                rcases j4 with rfl | rfl
                · exact this.2.1
                · exact this.2.2
              · have h := HGO.out
                rw [show needGo N (g' + 1) nd todo = if (moreR N nd todo).2 = [] then (moreR N nd todo).1 else needGo N g' (moreR N nd todo).1 (moreR N nd todo).2 from rfl, if_neg HE.out] at h
                exact h
  · rw [if_neg h0]
    have h1 : ¬ (cn : Int) = 0 := by omega
    go_enter Tryz.func8, Tryz.ntmps8
    go_wp2_with fail
    obtain ⟨w1, hw1⟩ : ∃ v, v = w.alloc (.cells #[.pointer (some ⟨n, 0, none⟩)] 25) := ⟨_, rfl⟩
    have K1 := Lib.hid (show Kept [] w w1 from by rw [hw1]; exact (Kept.refl [] w).alloc _)
    have hcn1 : w1.heap[w.heap.size]? = some (.cells #[.pointer (some ⟨n, 0, none⟩)] 25 (0, 0)) := by rw [hw1]; exact heap_alloc_new w _
    have cbn1 : w1.cell? ⟨w.heap.size, 0, none⟩ = some (.pointer (some ⟨n, 0, none⟩)) := blk_cell hcn1 0
    rw [← hw1]
    refine (HCK.out _ K1.out).mono ?_
    rintro e w2 ⟨rfl, k2⟩
    have K2 := Lib.hid (K1.out.trans k2)
    clear k2
    go_wp2_with fail
    go_ret2
    exact ⟨rfl, K2.out⟩
end Go.Proofs.YtdmcdhkkbkgnbaaGreat
