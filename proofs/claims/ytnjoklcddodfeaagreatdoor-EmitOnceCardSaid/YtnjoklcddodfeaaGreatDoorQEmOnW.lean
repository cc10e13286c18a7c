/-
  Law 10: EmitOnce, the walk.
-/
import Derived.Test.YtnjoklcddodfeaaGreatDoorQEmOnX
namespace Go.Proofs.YtnjoklcddodfeaaGreatDoor
open Go.ChangeShapes Go.WideShapes Go.ChangeAt Go.RowKit
open Go.Maps (Keyed)
open Go.WideMaps
set_option linter.unusedVariables false
set_option linter.unusedSimpArgs false

variable {w w' W W' : World} {p n k j m : Nat} {F R F' R' S : List Nat} {g : Gr} {N : Nt}
set_option maxHeartbeats 6400000 in
set_option maxRecDepth 100000 in
theorem eonce_c (o1 o2 : Bool) (sa : Option Addr) (sl : List NStp) (sc len how : Nat) (w : World) (hlen : sl.length = len) (hss : SlNStepsC w sa sl) (hso : ∀ s ∈ sl, s.ok) (hhow : how < 256) (hA : AllH w) (hT : TellsH w) (hS : SplitH w) (hP : ParseH) :
    Calls Tryz.prog 5 #[.agg #[.bool o1, .bool o2], .slice sa len sc, .int .u8 (how : Int)] w fun e w' => e = .returned (.bool true) ∧ Kept [] w w' := by
  have HB := Lib.hid (fun (V : World) (hV : Kept [] w V) => built10 o1 o2 sa sl sc len V hlen (SlNStepsC.kept0 hss hV) hso)
  obtain ⟨N, hN⟩ : ∃ N, N = builtN false o1 o2 sl 60 := ⟨_, rfl⟩
  have hf : NtFine 60 N := by rw [hN]; exact builtN_fine false o1 o2 sl 60
  have HNM := Lib.hid (show N.name = topS from by rw [hN]; exact builtN_name false o1 o2 sl 60)
  unfold BuiltPost at HB
  rw [← hN] at HB
  have HF := Lib.hid hf
  have HA := Lib.hid hA
  have HT := Lib.hid hT
  have HS := Lib.hid hS
  have HP := Lib.hid hP
  have hmm := @run_makeMap Tryz.prog
  clear hlen hss hso hN hf hA hT hS hP
  go_enter Tryz.func5, Tryz.ntmps5; (try simp only [List.append])
  go_wp2_with fail
  refine (HB.out _ ((Kept.refl [] w).alloc _)).mono ?_
  rintro e w1 ⟨n, F, R, q, F2, R2, rfl, hB⟩
  have K1 := Lib.hid (show Kept [] w w1 from ((Kept.refl [] w).alloc _).trans hB.kept)
  have N1 := Lib.hid hB.net
  obtain ⟨tl, htl⟩ : ∃ tl, tl = (textL (linesN N)).length := ⟨_, rfl⟩
  obtain ⟨cn, hcn⟩ : ∃ cn, cn = checkN N := ⟨_, rfl⟩
  have HTL := Lib.hid htl
  have HCN := Lib.hid hcn
  have HA1 := Lib.hid (HA.out w1 n F R N K1.out N1.out HF.out)
  unfold AllX at HA1
  simp only [← hcn, ← htl] at HA1
  clear hB htl hcn
  go_wp2_with fail
  refine HA1.out.mono ?_
  rintro e u1 ⟨v1, rfl, r1, k1⟩
  obtain ⟨a1, c1, rfl⟩ := ownsRow_anyx r1
  have R1' := Lib.hid r1
  have U1 := Lib.hid (K1.out.trans k1)
  have N2 := Lib.hid (N1.out.kept0 k1)
  have KU := Lib.hid k1
  clear r1 k1
  by_cases h0 : cn = 0
  · subst h0
    have HC0 := Lib.hid (show checkN N = 0 from HCN.out.symm)
    have HLB := Lib.hid (lines_body HC0.out)
    have HBM := Lib.hid (body_each HF.out (by decide))
    have HNE := Lib.hid (show bodyL N ≠ [] from by unfold bodyL; simp)
    have HTJ := Lib.hid (show textL (linesN N) = joinC 10 (bodyL N) ++ [10] from by rw [HLB.out]; exact textL_join _ HNE.out)
    have htl1 : 1 ≤ tl := by rw [HTL.out, HTJ.out]; simp
    have htlm : tl ≤ 9100000 := by rw [HTL.out]; exact (lines_each HF.out (by decide)).2.2
    obtain ⟨gb, rfl, hcb, hcv⟩ := bytes_at R1'.out HTL.out.symm (by omega)
    have hlast : u1.cell? ⟨gb, tl - 1, none⟩ = some (.int .u8 10) := by
      have hx : (textL (linesN N))[tl - 1]? = some 10 := by
        rw [HTJ.out, List.getElem?_append_right (by have := HTL.out; rw [HTJ.out, List.length_append] at this; simp at this; omega)]
        have := HTL.out
        rw [HTJ.out, List.length_append] at this
        simp at this
        rw [show tl - 1 - (joinC 10 (bodyL N)).length = 0 by omega]
        rfl
      obtain ⟨hlt, he⟩ := List.getElem?_eq_some_iff.1 hx
      rw [hcb _ hlt, he]
      rfl
    have hcb2 := fun W (hk : Kept [] u1 W) => hk.cell hlast (by simp)
    have e1 : ((tl : Int) - 1) = ((tl - 1 : Nat) : Int) := by omega
    obtain ⟨t1, ht1⟩ : ∃ t1, t1 = tl - 1 := ⟨_, rfl⟩
    have HT1 := Lib.hid ht1
    rw [← ht1] at e1 hlast
    have q1 : (0 : Int) ≤ (t1 : Int) := by omega
    have q2 : (t1 : Int) < (tl : Int) := by omega
    have q3 : IntKind.i64.wrap ((tl : Int) - 1) = (t1 : Int) := by rw [e1]; exact IntWalk.i64_in _ (by omega)
    obtain ⟨md, hmd⟩ : ∃ m, m = u1.heap.size := ⟨_, rfl⟩
    obtain ⟨W2, hW2⟩ : ∃ W, W = (u1.alloc (.map #[] 0)).alloc (.map #[] 0) := ⟨_, rfl⟩
    have KW2 := Lib.hid (show Kept [] u1 W2 from by rw [hW2]; exact ((Kept.refl [] u1).alloc _).alloc _)
    have DM := Lib.hid (show DrvMap W2 md [] from by
      rw [hW2, hmd]
      exact (DrvMap.new u1).kept ((Kept.refl [] _).alloc _) (by simp))
    have MM := Lib.hid (show ManyMap W2 (md + 1) [] from by
      have h := ManyMap.new (u1.alloc (.map #[] 0))
      rw [World.size_alloc, ← hmd] at h
      rw [hW2]
      exact h)
    have SW2 := Lib.hid (show W2.heap.size = md + 1 + 1 from by rw [hW2, World.size_alloc, World.size_alloc, hmd])
    have hconv : (convert 45 9 (.slice (some ⟨gb, 0, none⟩) t1 c1)).run Tryz.prog ((u1.alloc (.map #[] 0)).alloc (.map #[] 0)) = .ok (.string ⟨(joinC 10 (bodyL N)).toArray⟩) ((u1.alloc (.map #[] 0)).alloc (.map #[] 0)) := by
      obtain ⟨gb', hgb, _, h⟩ := bytes_at ((R1'.out.alloc (.map #[] 0)).alloc (.map #[] 0)) HTL.out.symm (by omega)
      injection hgb with hgb
      injection hgb with hgb
      subst hgb
      have h2 := h c1 t1 (by rw [← HTL.out]; omega)
      have h3 : (textL (linesN N)).take t1 = joinC 10 (bodyL N) := by
        have h4 := HTL.out
        rw [HTJ.out, List.length_append] at h4
        simp at h4
        rw [HTJ.out, HT1.out, show tl - 1 = (joinC 10 (bodyL N)).length by omega, List.take_left]
      rw [h3] at h2
      exact h2
    have hcap : tl ≤ c1 := by
      rcases R1'.out.2 with ⟨hv, h0⟩ | ⟨g, cap', cur, hv, _, _, hle, _⟩
      · omega
      · injection hv with _ _ hv
        omega
    have q4 : (t1 : Int) ≤ (c1 : Int) := by omega
    have q5 : t1 ≤ c1 := by omega
    have HMD := Lib.hid hmd
    have HSP := Lib.hid (HS.out W2 10 (bodyL N) (U1.out.trans KW2.out) HNE.out (fun s hs => lines_no HF.out s (by rw [HLB.out]; exact hs)) (by
      have h4 := HTL.out
      rw [HTJ.out, List.length_append] at h4
      simp at h4
      omega))
    clear e1 ht1 hcb hcv hcb2
    go_wp2_with fail
    rw [← hW2, ← hmd]
    clear hconv hlast hmd
    refine HSP.out.mono ?_
    rintro e w5 ⟨rfl, hw5⟩
    obtain ⟨bl, hbl⟩ : ∃ b, b = W2.heap.size := ⟨_, rfl⟩
    obtain ⟨RS, hRS⟩ : ∃ l, l = recsN N := ⟨_, rfl⟩
    obtain ⟨nL, hnL⟩ : ∃ m, m = (bodyL N).length := ⟨_, rfl⟩
    have HRS := Lib.hid hRS
    have HRL := Lib.hid (show RS.length = nL from by rw [hRS, hnL]; exact recs_len N)
    have HRB := Lib.hid (show RS.map recL = bodyL N from by rw [hRS]; exact recs_body N)
    have hLn : nL ≤ 6000 := by rw [hnL]; exact HBM.out.2
    have HDN := Lib.hid (show (drvs RS).Nodup from by rw [hRS, drvs_N]; exact drv_nodup HF.out)
    have HL5 := Lib.hid (show w5.heap[bl]? = some (.cells (strs (RS.map recL)) 9 (0, 0)) from by rw [hw5, hbl, HRB.out]; exact heap_alloc_new W2 _)
    have K5 := Lib.hid (show Kept [] W2 w5 from by rw [hw5]; exact (Kept.refl [] W2).alloc _)
    have SBL := Lib.hid (show bl = md + 1 + 1 ∧ w5.heap.size = bl + 1 from ⟨by rw [hbl]; exact SW2.out, by rw [hw5, World.size_alloc, hbl]⟩)
    have DM5 := Lib.hid (DM.out.kept K5.out (by simp))
    have MM5 := Lib.hid (MM.out.kept K5.out (by simp))
    have KW5 := Lib.hid ((U1.out.trans KW2.out).trans K5.out)
    have HN5 := Lib.hid (N2.out.kept0 (KW2.out.trans K5.out))
    have SMD := Lib.hid (show w.heap.size ≤ md from by rw [HMD.out]; exact U1.out.size)
    rw [← hnL, ← hbl]
    clear hw5 hbl hRS hnL
    go_wp2_with fail
    go_loopw [86] (fun v wr => ∃ k : Nat, k ≤ nL ∧ v = .int .i64 k ∧ DrvMap wr md (drvs (RS.take k)) ∧ ManyMap wr (md + 1) (RS.take k) ∧ Kept [md, md + 1] w5 wr) (fun v _ => nL - (intOf v).toNat)
    case atStart => exact ⟨0, Nat.zero_le _, rfl, DM5.out, MM5.out, .refl _ _⟩
    case round =>
      obtain ⟨k, hk, rfl, hdm, hmm2, hkr⟩ := hrel
      have DMr := Lib.hid hdm
      have MMr := Lib.hid hmm2
      have KR := Lib.hid hkr
      have KWr := Lib.hid (kept_up KW5.out hkr (fun b hb => by simp at hb; have := SMD.out; omega))
      clear hdm hmm2 hkr
      by_cases hlt : k < nL
      · have hkl : k < RS.length := by rw [HRL.out]; exact hlt
        obtain ⟨r, hr⟩ : ∃ r, RS[k]? = some r := ⟨_, List.getElem?_eq_getElem hkl⟩
        have HR := Lib.hid hr
        have HOK := Lib.hid (rec_ok (N := N) HF.out (by decide) (j := k) (r := r) (by rw [← HRS.out]; exact hr))
        have hmem : recL r ∈ bodyL N := by rw [← HRB.out]; exact List.mem_map_of_mem (List.mem_of_getElem? hr)
        have hline : wr.cell? ⟨bl, k, none⟩ = some (.string ⟨(recL r).toArray⟩) := by
          have h5 : wr.heap[bl]? = some (.cells (strs (RS.map recL)) 9 (0, 0)) := KR.out.heap HL5.out (by have := SBL.out; simp; omega)
          have h := strs_cell h5 k (by rw [List.length_map]; exact hkl)
          rw [h, List.getElem_map, (List.getElem?_eq_some_iff.1 hr).2]
        have p0 : (0 : Int) ≤ (k : Int) := by omega
        have p1 : (k : Int) < (nL : Int) := by omega
        have HSW := Lib.hid (HS.out wr 32 (wordsR r) KWr.out (by simp [wordsR]) (words_no32 HOK.out) (by rw [words_join]; have := HBM.out.1 _ hmem; omega))
        rw [words_join] at HSW
        have HN6 := Lib.hid (HN5.out.kept KR.out (fun b hb h => by have := HN5.out.lt.1 b hb; have := N2.out.lt.1 b hb; have := SBL.out; have := HMD.out; simp at h; omega) (fun b hb h => by have := N2.out.lt.2 b hb; have := HMD.out; simp at h; omega))
        clear hkl hr hmem
        go_wp2_with fail
        refine HSW.out.mono ?_
        rintro e w6 ⟨rfl, hw6⟩
        obtain ⟨bw, hbw⟩ : ∃ b, b = wr.heap.size := ⟨_, rfl⟩
        have HB6 := Lib.hid (show w6.heap[bw]? = some (.cells (strs (wordsR r)) 9 (0, 0)) from by rw [hw6, hbw]; exact heap_alloc_new wr _)
        have K6 := Lib.hid (show Kept [] wr w6 from by rw [hw6]; exact (Kept.refl [] wr).alloc _)
        have SBW := Lib.hid (show md + 1 < bw ∧ bl < bw ∧ w6.heap.size = bw + 1 from by
          have h1 := KR.out.size
          have h2 := SBL.out
          refine ⟨by omega, by omega, ?_⟩
          rw [hw6, World.size_alloc, hbw])
        obtain ⟨nw, hnw⟩ : ∃ m, m = (wordsR r).length := ⟨_, rfl⟩
        have HNW := Lib.hid hnw
        rw [← hbw, ← hnw]
        clear hw6 hbw hline hnw
        obtain ⟨kd, nm, nums⟩ := r
        have hkd : kd = 0 ∨ kd = 1 ∨ kd = 2 ∨ kd = 3 ∨ kd = 4 ∨ kd = 5 := by have h := HOK.out.kd; simp at h; omega
        rcases hkd with rfl | rfl | rfl | rfl | rfl | rfl
        · as_aux_lemma =>
          have hnm : nm ≠ [] := fun e => (HOK.out.nm.1 e) (by simp)
          have HWR := Lib.hid (show wordsR ⟨0, nm, nums⟩ = wModel :: nm :: nums.map Lib.decDigits from by unfold wordsR; rw [if_neg hnm]; rfl)
          clear hnm
          obtain ⟨nn, hnn⟩ : ∃ m, m = nums.length := ⟨_, rfl⟩
          have HNN := Lib.hid hnn
          have hn64 : nn ≤ 64 := by rw [hnn]; exact HOK.out.few
          have hnw : nw = 2 + nn := by rw [HNW.out, HWR.out, hnn]; simp; omega
          have HCW := Lib.hid (fun (W : World) (hk : Kept [md, md + 1] w6 W) (i : Nat) (s : List UInt8) (hi : (wModel :: nm :: nums.map Lib.decDigits)[i]? = some s) => show W.cell? ⟨bw, i, none⟩ = some (.string ⟨s.toArray⟩) from by
            have h6 := hk.heap HB6.out (by have := SBW.out; simp; omega)
            rw [HWR.out] at h6
            obtain ⟨h1, h2⟩ := List.getElem?_eq_some_iff.1 hi
            rw [strs_cell h6 i h1, h2])
          have c0 : w6.cell? ⟨bw, 0, none⟩ = some (.string ⟨#[46, 109, 111, 100, 101, 108]⟩) := HCW.out w6 (.refl _ _) 0 _ rfl
          have MM6 := Lib.hid (MMr.out.kept K6.out (by simp))
          have DM6 := Lib.hid (DMr.out.kept K6.out (by simp))
          have hlk : (Instr.lookup 63 (.map (some (md + 1))) (.string ⟨#[46, 109, 111, 100, 101, 108]⟩) false).run Tryz.prog w6 = .ok (.int .i64 (manyR (RS.take k) (wordK 0) : Nat)) w6 := MM6.out.look (wordK 0) (by decide)
          have hml : manyR (RS.take k) (wordK 0) ≤ k := by
            have h := List.countP_le_length (p := fun r : Rec => wordK r.kd == wordK 0) (l := RS.take k)
            rw [List.length_take] at h
            exact Nat.le_trans h (Nat.min_le_left _ _)
          have hwr : IntKind.i64.wrap ((manyR (RS.take k) (wordK 0) : Int) + 1) = (manyR (RS.take k) (wordK 0) : Int) + 1 := IntWalk.i64_in _ (by omega)
          have n0 : (0 : Int) < (nw : Int) := by omega
          have n1 : 0 < nw := by omega
          have hbm : bw ∉ [md + 1] := by have := SBW.out; simp; omega
          have HNX := Lib.hid hnw
          clear hnn hnw
          go_wp2_with (at_mapUpdate; refine wpList_many (r := ⟨0, nm, nums⟩) rfl rfl rfl rfl rfl MM6.out (by show (wordK 0).length ≤ 1000; decide) ?_; intro w7 hm7 hk7; have c7 := hk7.cell c0 hbm)
          have K7 := Lib.hid (show Kept [md, md + 1] w6 w7 from hk7.more (by simp))
          have MM7 := Lib.hid hm7
          have DM7 := Lib.hid (DM6.out.kept hk7 (by simp))
          have KW7 := Lib.hid (show Kept [] w w7 from kept_up (KWr.out.trans K6.out) hk7 (fun b hb => by simp at hb; have := SMD.out; omega))
          have HN7 := Lib.hid (show NetAt w7 n F R N from (HN6.out.kept0 K6.out).kept hk7 (fun b hb h => by have := N2.out.lt.1 b hb; have := HMD.out; simp at h; omega) (fun b hb h => by have := N2.out.lt.2 b hb; have := HMD.out; simp at h; omega))
          have SZ7 := Lib.hid (show bw < w7.heap.size from by have := SBW.out; have := hk7.size; omega)
          have hui : (Tryz.prog.info? 66).map (fun i => (i.zero, i.size, i.bytes)) = some (some (.int .u64 0), 1, 8) := by kernel_rfl
          have HUI := Lib.hid hui
          clear hm7 hk7 c7 c0 hlk hml hwr hbm hui
          go_loopw [19, 17] (fun i v wi => ∃ (x j : Nat) (a : Option Addr) (c : Nat), x = 2 + j ∧ j ≤ nn ∧ i = .int .i64 (x : Int) ∧ v = .slice a j c ∧ Own wi 66 a j c (nats .u64 (nums.take j)) ∧ Kept [] w7 wi ∧ ∀ b ∈ ft a, w7.heap.size ≤ b) (fun i _ _ => 2 + nn - (intOf i).toNat)
          case atStart => exact ⟨2, 0, none, 0, rfl, Nat.zero_le _, rfl, rfl, Own.nil _ _, .refl _ _, by simp [ft]⟩
          case round =>
            obtain ⟨x, j, a, c, hx, hj, rfl, rfl, ho, hki, hfa⟩ := hrel
            have HO := Lib.hid ho
            have KI := Lib.hid hki
            have FA := Lib.hid hfa
            have HX := Lib.hid hx
            clear ho hki hfa hx
            by_cases hlj : j < nn
            · obtain ⟨u, hu⟩ : ∃ u, nums[j]? = some u := ⟨_, List.getElem?_eq_getElem (by rw [← HNN.out]; exact hlj)⟩
              have HU := Lib.hid hu
              have HPU := Lib.hid (HP.out wr u (HOK.out.lt u (List.mem_of_getElem? hu)))
              have hcell : wr.cell? ⟨bw, x, none⟩ = some (.string ⟨(Lib.decDigits u).toArray⟩) := HCW.out wr (K7.out.trans (KI.out.more (by simp))) x _ (by
                rw [HX.out]
                simp [List.getElem?_append, hu, Nat.add_comm])
              have x0 : (0 : Int) ≤ (x : Int) := by omega
              have x1 : (x : Int) < (nw : Int) := by have := HX.out; have := HNX.out; omega
              have x2 : x ≤ 200 := by have := HX.out; omega
              clear hu
              go_wp2_with fail
              refine HPU.out.mono ?_
              rintro e w8 ⟨rfl, k8⟩
              have HO8 := Lib.hid (HO.out.kept0 k8)
              have K8 := Lib.hid (KI.out.trans k8)
              clear k8 hcell
              have ho8 := HO8.out
              have hui := HUI.out
              go_wp2_with (at_builtin; refine wpList_push rfl rfl Tryz.underlying65 hui rfl rfl rfl ho8 rfl (by unfold maxLen; omega) (by omega) ?_; intro a9 c9 w9 ho9 hs9)
              go_roundw
              case rel => exact ⟨x + 1, j + 1, a9, c9, by have := HX.out; omega, by omega, by go_num, rfl, by rw [take_next HU.out, ← nats_append]; exact ho9, kept_up K8.out hs9.kept FA.out, fun b hb => by
                rcases hs9.fresh b hb with h | h
                · exact FA.out b h
                · exact Nat.le_trans K8.out.size h⟩
              case measure => simp [intOf]; have := HX.out; omega
            · obtain rfl : j = nn := by omega
              have HTN := Lib.hid (show nums.take j = nums from List.take_of_length_le (by rw [← HNN.out]; exact Nat.le_refl _))
              have x1 : ¬ (x : Int) < (nw : Int) := by have := HX.out; have := HNX.out; omega
              have ho2 := HO.out
              rw [HTN.out] at ho2
              have HO2 := Lib.hid ho2
              have DM9 := Lib.hid (DM7.out.kept KI.out (by simp))
              have MM9 := Lib.hid (MM7.out.kept KI.out (by simp))
              have KW9 := Lib.hid (KW7.out.trans KI.out)
              have HN9 := Lib.hid (HN7.out.kept0 KI.out)
              have K9 := Lib.hid (show Kept [md, md + 1] w6 wr from K7.out.trans (KI.out.more (by simp)))
              have d0 : wr.cell? ⟨bw, 0, none⟩ = some (.string ⟨#[46, 109, 111, 100, 101, 108]⟩) := HCW.out wr K9.out 0 _ rfl
              have FA9 := Lib.hid (show ∀ b ∈ ft a, bw < b from fun b hb => Nat.lt_of_lt_of_le SZ7.out (FA.out b hb))
              clear ho2 HO DM7 MM7 HN7 FA HTN hlj
              obtain ⟨hk0, hnu, hnb⟩ := HOK.out.k0 rfl
              simp only at hnu hnb
              have hnn0 : j = 0 := by rw [HNN.out, hnu]; rfl
              have hnwx := HNX.out
              rw [hnn0] at hnwx
              subst hnwx
              have HK0 := Lib.hid hk0
              have hkz : (k : Int) = 0 := by omega
              have c1n := HN9.out.nameC
              have c1w : wr.cell? ⟨bw, 1, none⟩ = some (.string N.name) := by
                have h := HCW.out wr K9.out 1 nm rfl
                rw [hnb, str_bytesx] at h
                exact h
              clear hnb hnu hk0 hnn0
              go_wp2_with fail
              go_quiet (fail)
              go_wp2_with fail
              have KQ := (Kept.refl [] wr).drewN nq
              refine ⟨⟨k + 1, by omega, by have := HK0.out; simp [this], by rw [drvs_take HR.out, show drvR ⟨0, nm, nums⟩ = [] from rfl, List.append_nil]; exact DM9.out.kept KQ (by simp), by rw [recs_take HR.out]; exact MM9.out.kept KQ (by simp), KR.out.trans ((K6.out.more (by simp)).trans (K9.out.trans (KQ.more (by simp))))⟩, by simp [intOf]; omega⟩
        · as_aux_lemma =>
          have hnm : nm ≠ [] := fun e => (HOK.out.nm.1 e) (by simp)
          have HWR := Lib.hid (show wordsR ⟨1, nm, nums⟩ = wInput :: nm :: nums.map Lib.decDigits from by unfold wordsR; rw [if_neg hnm]; rfl)
          clear hnm
          obtain ⟨nn, hnn⟩ : ∃ m, m = nums.length := ⟨_, rfl⟩
          have HNN := Lib.hid hnn
          have hn64 : nn ≤ 64 := by rw [hnn]; exact HOK.out.few
          have hnw : nw = 2 + nn := by rw [HNW.out, HWR.out, hnn]; simp; omega
          have HCW := Lib.hid (fun (W : World) (hk : Kept [md, md + 1] w6 W) (i : Nat) (s : List UInt8) (hi : (wInput :: nm :: nums.map Lib.decDigits)[i]? = some s) => show W.cell? ⟨bw, i, none⟩ = some (.string ⟨s.toArray⟩) from by
            have h6 := hk.heap HB6.out (by have := SBW.out; simp; omega)
            rw [HWR.out] at h6
            obtain ⟨h1, h2⟩ := List.getElem?_eq_some_iff.1 hi
            rw [strs_cell h6 i h1, h2])
          have c0 : w6.cell? ⟨bw, 0, none⟩ = some (.string ⟨#[46, 105, 110, 112, 117, 116]⟩) := HCW.out w6 (.refl _ _) 0 _ rfl
          have MM6 := Lib.hid (MMr.out.kept K6.out (by simp))
          have DM6 := Lib.hid (DMr.out.kept K6.out (by simp))
          have hlk : (Instr.lookup 63 (.map (some (md + 1))) (.string ⟨#[46, 105, 110, 112, 117, 116]⟩) false).run Tryz.prog w6 = .ok (.int .i64 (manyR (RS.take k) (wordK 1) : Nat)) w6 := MM6.out.look (wordK 1) (by decide)
          have hml : manyR (RS.take k) (wordK 1) ≤ k := by
            have h := List.countP_le_length (p := fun r : Rec => wordK r.kd == wordK 1) (l := RS.take k)
            rw [List.length_take] at h
            exact Nat.le_trans h (Nat.min_le_left _ _)
          have hwr : IntKind.i64.wrap ((manyR (RS.take k) (wordK 1) : Int) + 1) = (manyR (RS.take k) (wordK 1) : Int) + 1 := IntWalk.i64_in _ (by omega)
          have n0 : (0 : Int) < (nw : Int) := by omega
          have n1 : 0 < nw := by omega
          have hbm : bw ∉ [md + 1] := by have := SBW.out; simp; omega
          have HNX := Lib.hid hnw
          clear hnn hnw
          go_wp2_with (at_mapUpdate; refine wpList_many (r := ⟨1, nm, nums⟩) rfl rfl rfl rfl rfl MM6.out (by show (wordK 1).length ≤ 1000; decide) ?_; intro w7 hm7 hk7; have c7 := hk7.cell c0 hbm)
          have K7 := Lib.hid (show Kept [md, md + 1] w6 w7 from hk7.more (by simp))
          have MM7 := Lib.hid hm7
          have DM7 := Lib.hid (DM6.out.kept hk7 (by simp))
          have KW7 := Lib.hid (show Kept [] w w7 from kept_up (KWr.out.trans K6.out) hk7 (fun b hb => by simp at hb; have := SMD.out; omega))
          have HN7 := Lib.hid (show NetAt w7 n F R N from (HN6.out.kept0 K6.out).kept hk7 (fun b hb h => by have := N2.out.lt.1 b hb; have := HMD.out; simp at h; omega) (fun b hb h => by have := N2.out.lt.2 b hb; have := HMD.out; simp at h; omega))
          have SZ7 := Lib.hid (show bw < w7.heap.size from by have := SBW.out; have := hk7.size; omega)
          have hui : (Tryz.prog.info? 66).map (fun i => (i.zero, i.size, i.bytes)) = some (some (.int .u64 0), 1, 8) := by kernel_rfl
          have HUI := Lib.hid hui
          clear hm7 hk7 c7 c0 hlk hml hwr hbm hui
          go_loopw [19, 17] (fun i v wi => ∃ (x j : Nat) (a : Option Addr) (c : Nat), x = 2 + j ∧ j ≤ nn ∧ i = .int .i64 (x : Int) ∧ v = .slice a j c ∧ Own wi 66 a j c (nats .u64 (nums.take j)) ∧ Kept [] w7 wi ∧ ∀ b ∈ ft a, w7.heap.size ≤ b) (fun i _ _ => 2 + nn - (intOf i).toNat)
          case atStart => exact ⟨2, 0, none, 0, rfl, Nat.zero_le _, rfl, rfl, Own.nil _ _, .refl _ _, by simp [ft]⟩
          case round =>
            obtain ⟨x, j, a, c, hx, hj, rfl, rfl, ho, hki, hfa⟩ := hrel
            have HO := Lib.hid ho
            have KI := Lib.hid hki
            have FA := Lib.hid hfa
            have HX := Lib.hid hx
            clear ho hki hfa hx
            by_cases hlj : j < nn
            · obtain ⟨u, hu⟩ : ∃ u, nums[j]? = some u := ⟨_, List.getElem?_eq_getElem (by rw [← HNN.out]; exact hlj)⟩
              have HU := Lib.hid hu
              have HPU := Lib.hid (HP.out wr u (HOK.out.lt u (List.mem_of_getElem? hu)))
              have hcell : wr.cell? ⟨bw, x, none⟩ = some (.string ⟨(Lib.decDigits u).toArray⟩) := HCW.out wr (K7.out.trans (KI.out.more (by simp))) x _ (by
                rw [HX.out]
                simp [List.getElem?_append, hu, Nat.add_comm])
              have x0 : (0 : Int) ≤ (x : Int) := by omega
              have x1 : (x : Int) < (nw : Int) := by have := HX.out; have := HNX.out; omega
              have x2 : x ≤ 200 := by have := HX.out; omega
              clear hu
              go_wp2_with fail
              refine HPU.out.mono ?_
              rintro e w8 ⟨rfl, k8⟩
              have HO8 := Lib.hid (HO.out.kept0 k8)
              have K8 := Lib.hid (KI.out.trans k8)
              clear k8 hcell
              have ho8 := HO8.out
              have hui := HUI.out
              go_wp2_with (at_builtin; refine wpList_push rfl rfl Tryz.underlying65 hui rfl rfl rfl ho8 rfl (by unfold maxLen; omega) (by omega) ?_; intro a9 c9 w9 ho9 hs9)
              go_roundw
              case rel => exact ⟨x + 1, j + 1, a9, c9, by have := HX.out; omega, by omega, by go_num, rfl, by rw [take_next HU.out, ← nats_append]; exact ho9, kept_up K8.out hs9.kept FA.out, fun b hb => by
                rcases hs9.fresh b hb with h | h
                · exact FA.out b h
                · exact Nat.le_trans K8.out.size h⟩
              case measure => simp [intOf]; have := HX.out; omega
            · obtain rfl : j = nn := by omega
              have HTN := Lib.hid (show nums.take j = nums from List.take_of_length_le (by rw [← HNN.out]; exact Nat.le_refl _))
              have x1 : ¬ (x : Int) < (nw : Int) := by have := HX.out; have := HNX.out; omega
              have ho2 := HO.out
              rw [HTN.out] at ho2
              have HO2 := Lib.hid ho2
              have DM9 := Lib.hid (DM7.out.kept KI.out (by simp))
              have MM9 := Lib.hid (MM7.out.kept KI.out (by simp))
              have KW9 := Lib.hid (KW7.out.trans KI.out)
              have HN9 := Lib.hid (HN7.out.kept0 KI.out)
              have K9 := Lib.hid (show Kept [md, md + 1] w6 wr from K7.out.trans (KI.out.more (by simp)))
              have d0 : wr.cell? ⟨bw, 0, none⟩ = some (.string ⟨#[46, 105, 110, 112, 117, 116]⟩) := HCW.out wr K9.out 0 _ rfl
              have FA9 := Lib.hid (show ∀ b ∈ ft a, bw < b from fun b hb => Nat.lt_of_lt_of_le SZ7.out (FA.out b hb))
              clear ho2 HO DM7 MM7 HN7 FA HTN hlj
              obtain ⟨w9, rfl⟩ : ∃ v : World, v = wr := ⟨_, rfl⟩
              go_wp2_with fail
              clear d0
              go_loopw [143] (fun v wi => ∃ y : Nat, y ≤ j ∧ v = .int .i64 y ∧ DrvMap wi md (drvs (RS.take k) ++ nums.take y) ∧ Kept [md] w9 wi) (fun v _ => j - (intOf v).toNat)
              case atStart => exact ⟨0, Nat.zero_le _, rfl, by rw [List.take_zero, List.append_nil]; exact DM9.out, .refl _ _⟩
              case round =>
                obtain ⟨y, hy, rfl, hdy, hky⟩ := hrel
                have DY := Lib.hid hdy
                have KY := Lib.hid hky
                clear hdy hky
                have HMA := Lib.hid (show md ∉ ft a from fun h => by have := FA9.out md h; have := SBW.out; omega)
                by_cases hly : y < j
                · obtain ⟨u, hu⟩ : ∃ u, nums[y]? = some u := ⟨_, List.getElem?_eq_getElem (by rw [← HNN.out]; exact hly)⟩
                  have HU := Lib.hid hu
                  have hu32 := HOK.out.lt u (List.mem_of_getElem? hu)
                  obtain ⟨g, rfl⟩ := HO2.out.form (by omega)
                  have hcell : wr.cell? ⟨g, y, none⟩ = some (.int .u64 (u : Int)) := own_at (HO2.out.kept KY.out (fun b hb h => by simp at h; subst h; exact HMA.out hb)) hu
                  have hnin := drv_next HDN.out HR.out (show (drvR ⟨1, nm, nums⟩)[y]? = some u from hu)
                  have HNI := Lib.hid (show u ∉ drvs (RS.take k) ++ nums.take y from hnin)
                  have hlk : (Instr.lookup 62 (.map (some md)) (.int .u64 (u : Int)) false).run Tryz.prog wr = .ok (.int .i64 0) wr := by
                    have h := DY.out.look u hu32
                    rw [if_neg HNI.out] at h
                    exact h
                  have HU32 := Lib.hid hu32
                  have y0 : (0 : Int) ≤ (y : Int) := by omega
                  have y1 : (y : Int) < (j : Int) := by omega
                  clear hu hnin hu32
                  go_wp2_with (at_mapUpdate; refine wpList_drv rfl rfl rfl rfl rfl DY.out HU32.out HNI.out ?_; intro w10 hd10 hk10)
                  go_roundw
                  case rel => exact ⟨y + 1, by omega, by go_num, by rw [take_next HU.out, ← List.append_assoc]; exact hd10, KY.out.trans hk10⟩
                  case measure => simp [intOf]; omega
                · obtain rfl : y = j := by omega
                  obtain ⟨i, b, hb, hnb, hlb⟩ := HOK.out.k1 rfl
                  simp only at hnb hlb
                  have HTN := Lib.hid (show nums.take y = nums from List.take_of_length_le (by rw [← HNN.out]; exact Nat.le_refl _))
                  have hn11 := HN9.out.kept KY.out (fun b hb h => by have := N2.out.lt.1 b hb; have := HMD.out; simp at h; omega) (fun b hb h => by have := N2.out.lt.2 b hb; have := HMD.out; simp at h; omega)
                  obtain ⟨ia, ic, c2, hfc⟩ := findx_in hn11 HF.out (by decide) (List.mem_of_getElem? hb)
                  rw [show b.name = ⟨nm.toArray⟩ from by rw [hnb, str_bytesx], show b.lits.length = y from by rw [← hlb, HNN.out]] at hfc
                  have HFC := Lib.hid hfc
                  obtain ⟨nI, hnI⟩ : ∃ m, m = N.inb.length := ⟨_, rfl⟩
                  rw [← hnI] at c2 HFC
                  have c1w : wr.cell? ⟨bw, 1, none⟩ = some (.string ⟨nm.toArray⟩) := HCW.out wr (K9.out.trans (KY.out.more (by simp))) 1 _ rfl
                  have w1n : (1 : Int) < (nw : Int) := by have := HNX.out; omega
                  have w1z : 1 < nw := by have := HNX.out; omega
                  clear hn11 hfc hnI hb hnb hlb
                  obtain ⟨w11, rfl⟩ : ∃ v : World, v = wr := ⟨_, rfl⟩
                  go_wp2_with fail
                  go_region_held3 (fun w' => w'.cell? ⟨n, 2, none⟩ = some (.slice ia nI ic) ∧ w'.cell? ⟨bw, 1, none⟩ = some (.string ⟨nm.toArray⟩))
                    (first | exact keep_2 (w := w11) (by (repeat (first | with_reducible exact Kept.refl _ _ | with_reducible apply Kept.drew | with_reducible apply Kept.drewN | with_reducible apply Kept.alloc | refine Kept.trans ?_ k2))) c2 c1w | go_keep)
                    (first | (go_at_call 23; (with_reducible refine (HFC.out _ ?kk).mono ?_); (case kk => ((repeat (first | with_reducible exact Kept.refl _ _ | with_reducible apply Kept.drew | with_reducible apply Kept.drewN | with_reducible apply Kept.alloc | refine Kept.trans ?_ k2)))); rintro e u2 ⟨a2, c2', rfl, k2⟩))
                  all_goals
                    have DMZ := Lib.hid (show DrvMap u2 md (drvs (RS.take (k + 1))) from by
                      rw [drvs_take HR.out, show drvR ⟨1, nm, nums⟩ = nums from rfl, ← HTN.out]
                      exact DY.out.kept (show Kept [] w11 u2 from by (repeat (first | with_reducible exact Kept.refl _ _ | with_reducible apply Kept.drew | with_reducible apply Kept.drewN | with_reducible apply Kept.alloc | refine Kept.trans ?_ k2))) (by simp))
                    have MMZ := Lib.hid (show ManyMap u2 (md + 1) (RS.take (k + 1)) from by
                      rw [recs_take HR.out]
                      exact (MM9.out.kept KY.out (by simp)).kept (show Kept [] w11 u2 from by (repeat (first | with_reducible exact Kept.refl _ _ | with_reducible apply Kept.drew | with_reducible apply Kept.drewN | with_reducible apply Kept.alloc | refine Kept.trans ?_ k2))) (by simp))
                    have KZZ := Lib.hid (show Kept [md, md + 1] w5 u2 from KR.out.trans ((K6.out.more (by simp)).trans (K9.out.trans ((KY.out.more (by simp)).trans ((show Kept [] w11 u2 from by (repeat (first | with_reducible exact Kept.refl _ _ | with_reducible apply Kept.drew | with_reducible apply Kept.drewN | with_reducible apply Kept.alloc | refine Kept.trans ?_ k2))).more (by simp))))))
                    clear k2 c2 c1w
                    go_wp2_with fail
                    refine ⟨⟨k + 1, by omega, by go_num, DMZ.out, MMZ.out, KZZ.out⟩, by simp [intOf]; omega⟩
        · as_aux_lemma =>
          have hnm : nm = [] := HOK.out.nm.2 (by simp)
          have HWR := Lib.hid (show wordsR ⟨2, nm, nums⟩ = wLatch :: nums.map Lib.decDigits from by unfold wordsR; rw [if_pos hnm]; rfl)
          clear hnm
          obtain ⟨nn, hnn⟩ : ∃ m, m = nums.length := ⟨_, rfl⟩
          have HNN := Lib.hid hnn
          have hn64 : nn ≤ 64 := by rw [hnn]; exact HOK.out.few
          have hnw : nw = 1 + nn := by rw [HNW.out, HWR.out, hnn]; simp; omega
          have HCW := Lib.hid (fun (W : World) (hk : Kept [md, md + 1] w6 W) (i : Nat) (s : List UInt8) (hi : (wLatch :: nums.map Lib.decDigits)[i]? = some s) => show W.cell? ⟨bw, i, none⟩ = some (.string ⟨s.toArray⟩) from by
            have h6 := hk.heap HB6.out (by have := SBW.out; simp; omega)
            rw [HWR.out] at h6
            obtain ⟨h1, h2⟩ := List.getElem?_eq_some_iff.1 hi
            rw [strs_cell h6 i h1, h2])
          have c0 : w6.cell? ⟨bw, 0, none⟩ = some (.string ⟨#[46, 108, 97, 116, 99, 104]⟩) := HCW.out w6 (.refl _ _) 0 _ rfl
          have MM6 := Lib.hid (MMr.out.kept K6.out (by simp))
          have DM6 := Lib.hid (DMr.out.kept K6.out (by simp))
          have hlk : (Instr.lookup 63 (.map (some (md + 1))) (.string ⟨#[46, 108, 97, 116, 99, 104]⟩) false).run Tryz.prog w6 = .ok (.int .i64 (manyR (RS.take k) (wordK 2) : Nat)) w6 := MM6.out.look (wordK 2) (by decide)
          have hml : manyR (RS.take k) (wordK 2) ≤ k := by
            have h := List.countP_le_length (p := fun r : Rec => wordK r.kd == wordK 2) (l := RS.take k)
            rw [List.length_take] at h
            exact Nat.le_trans h (Nat.min_le_left _ _)
          have hwr : IntKind.i64.wrap ((manyR (RS.take k) (wordK 2) : Int) + 1) = (manyR (RS.take k) (wordK 2) : Int) + 1 := IntWalk.i64_in _ (by omega)
          have n0 : (0 : Int) < (nw : Int) := by omega
          have n1 : 0 < nw := by omega
          have hbm : bw ∉ [md + 1] := by have := SBW.out; simp; omega
          have HNX := Lib.hid hnw
          clear hnn hnw
          go_wp2_with (at_mapUpdate; refine wpList_many (r := ⟨2, nm, nums⟩) rfl rfl rfl rfl rfl MM6.out (by show (wordK 2).length ≤ 1000; decide) ?_; intro w7 hm7 hk7; have c7 := hk7.cell c0 hbm)
          have K7 := Lib.hid (show Kept [md, md + 1] w6 w7 from hk7.more (by simp))
          have MM7 := Lib.hid hm7
          have DM7 := Lib.hid (DM6.out.kept hk7 (by simp))
          have KW7 := Lib.hid (show Kept [] w w7 from kept_up (KWr.out.trans K6.out) hk7 (fun b hb => by simp at hb; have := SMD.out; omega))
          have HN7 := Lib.hid (show NetAt w7 n F R N from (HN6.out.kept0 K6.out).kept hk7 (fun b hb h => by have := N2.out.lt.1 b hb; have := HMD.out; simp at h; omega) (fun b hb h => by have := N2.out.lt.2 b hb; have := HMD.out; simp at h; omega))
          have SZ7 := Lib.hid (show bw < w7.heap.size from by have := SBW.out; have := hk7.size; omega)
          have hui : (Tryz.prog.info? 66).map (fun i => (i.zero, i.size, i.bytes)) = some (some (.int .u64 0), 1, 8) := by kernel_rfl
          have HUI := Lib.hid hui
          clear hm7 hk7 c7 c0 hlk hml hwr hbm hui
          go_loopw [19, 17] (fun i v wi => ∃ (x j : Nat) (a : Option Addr) (c : Nat), x = 1 + j ∧ j ≤ nn ∧ i = .int .i64 (x : Int) ∧ v = .slice a j c ∧ Own wi 66 a j c (nats .u64 (nums.take j)) ∧ Kept [] w7 wi ∧ ∀ b ∈ ft a, w7.heap.size ≤ b) (fun i _ _ => 1 + nn - (intOf i).toNat)
          case atStart => exact ⟨1, 0, none, 0, rfl, Nat.zero_le _, rfl, rfl, Own.nil _ _, .refl _ _, by simp [ft]⟩
          case round =>
            obtain ⟨x, j, a, c, hx, hj, rfl, rfl, ho, hki, hfa⟩ := hrel
            have HO := Lib.hid ho
            have KI := Lib.hid hki
            have FA := Lib.hid hfa
            have HX := Lib.hid hx
            clear ho hki hfa hx
            by_cases hlj : j < nn
            · obtain ⟨u, hu⟩ : ∃ u, nums[j]? = some u := ⟨_, List.getElem?_eq_getElem (by rw [← HNN.out]; exact hlj)⟩
              have HU := Lib.hid hu
              have HPU := Lib.hid (HP.out wr u (HOK.out.lt u (List.mem_of_getElem? hu)))
              have hcell : wr.cell? ⟨bw, x, none⟩ = some (.string ⟨(Lib.decDigits u).toArray⟩) := HCW.out wr (K7.out.trans (KI.out.more (by simp))) x _ (by
                rw [HX.out]
                simp [List.getElem?_append, hu, Nat.add_comm])
              have x0 : (0 : Int) ≤ (x : Int) := by omega
              have x1 : (x : Int) < (nw : Int) := by have := HX.out; have := HNX.out; omega
              have x2 : x ≤ 200 := by have := HX.out; omega
              clear hu
              go_wp2_with fail
              refine HPU.out.mono ?_
              rintro e w8 ⟨rfl, k8⟩
              have HO8 := Lib.hid (HO.out.kept0 k8)
              have K8 := Lib.hid (KI.out.trans k8)
              clear k8 hcell
              have ho8 := HO8.out
              have hui := HUI.out
              go_wp2_with (at_builtin; refine wpList_push rfl rfl Tryz.underlying65 hui rfl rfl rfl ho8 rfl (by unfold maxLen; omega) (by omega) ?_; intro a9 c9 w9 ho9 hs9)
              go_roundw
              case rel => exact ⟨x + 1, j + 1, a9, c9, by have := HX.out; omega, by omega, by go_num, rfl, by rw [take_next HU.out, ← nats_append]; exact ho9, kept_up K8.out hs9.kept FA.out, fun b hb => by
                rcases hs9.fresh b hb with h | h
                · exact FA.out b h
                · exact Nat.le_trans K8.out.size h⟩
              case measure => simp [intOf]; have := HX.out; omega
            · obtain rfl : j = nn := by omega
              have HTN := Lib.hid (show nums.take j = nums from List.take_of_length_le (by rw [← HNN.out]; exact Nat.le_refl _))
              have x1 : ¬ (x : Int) < (nw : Int) := by have := HX.out; have := HNX.out; omega
              have ho2 := HO.out
              rw [HTN.out] at ho2
              have HO2 := Lib.hid ho2
              have DM9 := Lib.hid (DM7.out.kept KI.out (by simp))
              have MM9 := Lib.hid (MM7.out.kept KI.out (by simp))
              have KW9 := Lib.hid (KW7.out.trans KI.out)
              have HN9 := Lib.hid (HN7.out.kept0 KI.out)
              have K9 := Lib.hid (show Kept [md, md + 1] w6 wr from K7.out.trans (KI.out.more (by simp)))
              have d0 : wr.cell? ⟨bw, 0, none⟩ = some (.string ⟨#[46, 108, 97, 116, 99, 104]⟩) := HCW.out wr K9.out 0 _ rfl
              have FA9 := Lib.hid (show ∀ b ∈ ft a, bw < b from fun b hb => Nat.lt_of_lt_of_le SZ7.out (FA.out b hb))
              clear ho2 HO DM7 MM7 HN7 FA HTN hlj
              obtain ⟨q0, q1, q2, q3, hq, hq3⟩ := HOK.out.k2 rfl
              simp only at hq
              subst hq
              have hj4 : j = 4 := by rw [HNN.out]; rfl
              subst hj4
              obtain ⟨g, rfl⟩ := HO2.out.form (by omega)
              have e0 : wr.cell? ⟨g, 0, none⟩ = some (.int .u64 (q0 : Int)) := own_at HO2.out rfl
              have e3 : wr.cell? ⟨g, 3, none⟩ = some (.int .u64 (q3 : Int)) := own_at HO2.out rfl
              have hq31 : ¬ (1 : Int) < (q3 : Int) := by omega
              have HU32 := Lib.hid (HOK.out.lt q0 (by simp))
              have HNI := Lib.hid (show q0 ∉ drvs (RS.take k) from by
                have h := drv_next (j := 0) (u := q0) HDN.out HR.out rfl
                rw [List.take_zero, List.append_nil] at h
                exact h)
              have hlk : (Instr.lookup 62 (.map (some md)) (.int .u64 (q0 : Int)) false).run Tryz.prog wr = .ok (.int .i64 0) wr := by
                have h := DM9.out.look q0 HU32.out
                rw [if_neg HNI.out] at h
                exact h
              go_wp2_with (at_mapUpdate; refine wpList_drv rfl rfl rfl rfl rfl DM9.out HU32.out HNI.out ?_; intro w10 hd10 hk10)
              refine ⟨⟨k + 1, by omega, by go_num, by rw [drvs_take HR.out]; exact hd10, by rw [recs_take HR.out]; exact MM9.out.kept hk10 (by simp), KR.out.trans ((K6.out.more (by simp)).trans (K9.out.trans (hk10.more (by simp))))⟩, by simp [intOf]; omega⟩
        · as_aux_lemma =>
          have hnm : nm = [] := HOK.out.nm.2 (by simp)
          have HWR := Lib.hid (show wordsR ⟨3, nm, nums⟩ = wAnd :: nums.map Lib.decDigits from by unfold wordsR; rw [if_pos hnm]; rfl)
          clear hnm
          obtain ⟨nn, hnn⟩ : ∃ m, m = nums.length := ⟨_, rfl⟩
          have HNN := Lib.hid hnn
          have hn64 : nn ≤ 64 := by rw [hnn]; exact HOK.out.few
          have hnw : nw = 1 + nn := by rw [HNW.out, HWR.out, hnn]; simp; omega
          have HCW := Lib.hid (fun (W : World) (hk : Kept [md, md + 1] w6 W) (i : Nat) (s : List UInt8) (hi : (wAnd :: nums.map Lib.decDigits)[i]? = some s) => show W.cell? ⟨bw, i, none⟩ = some (.string ⟨s.toArray⟩) from by
            have h6 := hk.heap HB6.out (by have := SBW.out; simp; omega)
            rw [HWR.out] at h6
            obtain ⟨h1, h2⟩ := List.getElem?_eq_some_iff.1 hi
            rw [strs_cell h6 i h1, h2])
          have c0 : w6.cell? ⟨bw, 0, none⟩ = some (.string ⟨#[46, 97, 110, 100]⟩) := HCW.out w6 (.refl _ _) 0 _ rfl
          have MM6 := Lib.hid (MMr.out.kept K6.out (by simp))
          have DM6 := Lib.hid (DMr.out.kept K6.out (by simp))
          have hlk : (Instr.lookup 63 (.map (some (md + 1))) (.string ⟨#[46, 97, 110, 100]⟩) false).run Tryz.prog w6 = .ok (.int .i64 (manyR (RS.take k) (wordK 3) : Nat)) w6 := MM6.out.look (wordK 3) (by decide)
          have hml : manyR (RS.take k) (wordK 3) ≤ k := by
            have h := List.countP_le_length (p := fun r : Rec => wordK r.kd == wordK 3) (l := RS.take k)
            rw [List.length_take] at h
            exact Nat.le_trans h (Nat.min_le_left _ _)
          have hwr : IntKind.i64.wrap ((manyR (RS.take k) (wordK 3) : Int) + 1) = (manyR (RS.take k) (wordK 3) : Int) + 1 := IntWalk.i64_in _ (by omega)
          have n0 : (0 : Int) < (nw : Int) := by omega
          have n1 : 0 < nw := by omega
          have hbm : bw ∉ [md + 1] := by have := SBW.out; simp; omega
          have HNX := Lib.hid hnw
          clear hnn hnw
          go_wp2_with (at_mapUpdate; refine wpList_many (r := ⟨3, nm, nums⟩) rfl rfl rfl rfl rfl MM6.out (by show (wordK 3).length ≤ 1000; decide) ?_; intro w7 hm7 hk7; have c7 := hk7.cell c0 hbm)
          have K7 := Lib.hid (show Kept [md, md + 1] w6 w7 from hk7.more (by simp))
          have MM7 := Lib.hid hm7
          have DM7 := Lib.hid (DM6.out.kept hk7 (by simp))
          have KW7 := Lib.hid (show Kept [] w w7 from kept_up (KWr.out.trans K6.out) hk7 (fun b hb => by simp at hb; have := SMD.out; omega))
          have HN7 := Lib.hid (show NetAt w7 n F R N from (HN6.out.kept0 K6.out).kept hk7 (fun b hb h => by have := N2.out.lt.1 b hb; have := HMD.out; simp at h; omega) (fun b hb h => by have := N2.out.lt.2 b hb; have := HMD.out; simp at h; omega))
          have SZ7 := Lib.hid (show bw < w7.heap.size from by have := SBW.out; have := hk7.size; omega)
          have hui : (Tryz.prog.info? 66).map (fun i => (i.zero, i.size, i.bytes)) = some (some (.int .u64 0), 1, 8) := by kernel_rfl
          have HUI := Lib.hid hui
          clear hm7 hk7 c7 c0 hlk hml hwr hbm hui
          go_loopw [19, 17] (fun i v wi => ∃ (x j : Nat) (a : Option Addr) (c : Nat), x = 1 + j ∧ j ≤ nn ∧ i = .int .i64 (x : Int) ∧ v = .slice a j c ∧ Own wi 66 a j c (nats .u64 (nums.take j)) ∧ Kept [] w7 wi ∧ ∀ b ∈ ft a, w7.heap.size ≤ b) (fun i _ _ => 1 + nn - (intOf i).toNat)
          case atStart => exact ⟨1, 0, none, 0, rfl, Nat.zero_le _, rfl, rfl, Own.nil _ _, .refl _ _, by simp [ft]⟩
          case round =>
            obtain ⟨x, j, a, c, hx, hj, rfl, rfl, ho, hki, hfa⟩ := hrel
            have HO := Lib.hid ho
            have KI := Lib.hid hki
            have FA := Lib.hid hfa
            have HX := Lib.hid hx
            clear ho hki hfa hx
            by_cases hlj : j < nn
            · obtain ⟨u, hu⟩ : ∃ u, nums[j]? = some u := ⟨_, List.getElem?_eq_getElem (by rw [← HNN.out]; exact hlj)⟩
              have HU := Lib.hid hu
              have HPU := Lib.hid (HP.out wr u (HOK.out.lt u (List.mem_of_getElem? hu)))
              have hcell : wr.cell? ⟨bw, x, none⟩ = some (.string ⟨(Lib.decDigits u).toArray⟩) := HCW.out wr (K7.out.trans (KI.out.more (by simp))) x _ (by
                rw [HX.out]
                simp [List.getElem?_append, hu, Nat.add_comm])
              have x0 : (0 : Int) ≤ (x : Int) := by omega
              have x1 : (x : Int) < (nw : Int) := by have := HX.out; have := HNX.out; omega
              have x2 : x ≤ 200 := by have := HX.out; omega
              clear hu
              go_wp2_with fail
              refine HPU.out.mono ?_
              rintro e w8 ⟨rfl, k8⟩
              have HO8 := Lib.hid (HO.out.kept0 k8)
              have K8 := Lib.hid (KI.out.trans k8)
              clear k8 hcell
              have ho8 := HO8.out
              have hui := HUI.out
              go_wp2_with (at_builtin; refine wpList_push rfl rfl Tryz.underlying65 hui rfl rfl rfl ho8 rfl (by unfold maxLen; omega) (by omega) ?_; intro a9 c9 w9 ho9 hs9)
              go_roundw
              case rel => exact ⟨x + 1, j + 1, a9, c9, by have := HX.out; omega, by omega, by go_num, rfl, by rw [take_next HU.out, ← nats_append]; exact ho9, kept_up K8.out hs9.kept FA.out, fun b hb => by
                rcases hs9.fresh b hb with h | h
                · exact FA.out b h
                · exact Nat.le_trans K8.out.size h⟩
              case measure => simp [intOf]; have := HX.out; omega
            · obtain rfl : j = nn := by omega
              have HTN := Lib.hid (show nums.take j = nums from List.take_of_length_le (by rw [← HNN.out]; exact Nat.le_refl _))
              have x1 : ¬ (x : Int) < (nw : Int) := by have := HX.out; have := HNX.out; omega
              have ho2 := HO.out
              rw [HTN.out] at ho2
              have HO2 := Lib.hid ho2
              have DM9 := Lib.hid (DM7.out.kept KI.out (by simp))
              have MM9 := Lib.hid (MM7.out.kept KI.out (by simp))
              have KW9 := Lib.hid (KW7.out.trans KI.out)
              have HN9 := Lib.hid (HN7.out.kept0 KI.out)
              have K9 := Lib.hid (show Kept [md, md + 1] w6 wr from K7.out.trans (KI.out.more (by simp)))
              have d0 : wr.cell? ⟨bw, 0, none⟩ = some (.string ⟨#[46, 97, 110, 100]⟩) := HCW.out wr K9.out 0 _ rfl
              have FA9 := Lib.hid (show ∀ b ∈ ft a, bw < b from fun b hb => Nat.lt_of_lt_of_le SZ7.out (FA.out b hb))
              clear ho2 HO DM7 MM7 HN7 FA HTN hlj
              obtain ⟨q0, q1, q2, hq, hq1, hq2⟩ := HOK.out.k3 rfl
              simp only at hq
              subst hq
              have hj3 : j = 3 := by rw [HNN.out]; rfl
              subst hj3
              obtain ⟨g, rfl⟩ := HO2.out.form (by omega)
              have e0 : wr.cell? ⟨g, 0, none⟩ = some (.int .u64 (q0 : Int)) := own_at HO2.out rfl
              have e1 : wr.cell? ⟨g, 1, none⟩ = some (.int .u64 (q1 : Int)) := own_at HO2.out rfl
              have e2 : wr.cell? ⟨g, 2, none⟩ = some (.int .u64 (q2 : Int)) := own_at HO2.out rfl
              have hq10 : ¬ (q0 : Int) ≤ (q1 : Int) := by omega
              have hq21 : ¬ (q1 : Int) < (q2 : Int) := by omega
              have HU32 := Lib.hid (HOK.out.lt q0 (by simp))
              have HNI := Lib.hid (show q0 ∉ drvs (RS.take k) from by
                have h := drv_next (j := 0) (u := q0) HDN.out HR.out rfl
                rw [List.take_zero, List.append_nil] at h
                exact h)
              go_wp2_with fail
              have hlk : ∀ i, (Instr.lookup 62 (.map (some md)) (.int .u64 (q0 : Int)) false).run Tryz.prog (wr.drewN i) = .ok (.int .i64 0) (wr.drewN i) := fun i => by
                have h := (DM9.out.kept ((Kept.refl [] wr).drewN i) (by simp)).look q0 HU32.out
                rw [if_neg HNI.out] at h
                exact h
              go_quiet (fail)
              have DMq := Lib.hid (DM9.out.kept ((Kept.refl [] wr).drewN nq) (by simp))
              have hlq := hlk nq
              clear hlk
              go_wp2_with (at_mapUpdate; refine wpList_drv rfl rfl rfl rfl rfl DMq.out HU32.out HNI.out ?_; intro w10 hd10 hk10)
              refine ⟨⟨k + 1, by omega, by go_num, by rw [drvs_take HR.out]; exact hd10, by rw [recs_take HR.out]; exact (MM9.out.kept ((Kept.refl [] wr).drewN nq) (by simp)).kept hk10 (by simp), KR.out.trans ((K6.out.more (by simp)).trans (K9.out.trans ((((Kept.refl [] wr).drewN nq).more (by simp)).trans (hk10.more (by simp)))))⟩, by simp [intOf]; omega⟩
        · as_aux_lemma =>
          have hnm : nm ≠ [] := fun e => (HOK.out.nm.1 e) (by simp)
          have HWR := Lib.hid (show wordsR ⟨4, nm, nums⟩ = wOutput :: nm :: nums.map Lib.decDigits from by unfold wordsR; rw [if_neg hnm]; rfl)
          clear hnm
          obtain ⟨nn, hnn⟩ : ∃ m, m = nums.length := ⟨_, rfl⟩
          have HNN := Lib.hid hnn
          have hn64 : nn ≤ 64 := by rw [hnn]; exact HOK.out.few
          have hnw : nw = 2 + nn := by rw [HNW.out, HWR.out, hnn]; simp; omega
          have HCW := Lib.hid (fun (W : World) (hk : Kept [md, md + 1] w6 W) (i : Nat) (s : List UInt8) (hi : (wOutput :: nm :: nums.map Lib.decDigits)[i]? = some s) => show W.cell? ⟨bw, i, none⟩ = some (.string ⟨s.toArray⟩) from by
            have h6 := hk.heap HB6.out (by have := SBW.out; simp; omega)
            rw [HWR.out] at h6
            obtain ⟨h1, h2⟩ := List.getElem?_eq_some_iff.1 hi
            rw [strs_cell h6 i h1, h2])
          have c0 : w6.cell? ⟨bw, 0, none⟩ = some (.string ⟨#[46, 111, 117, 116, 112, 117, 116]⟩) := HCW.out w6 (.refl _ _) 0 _ rfl
          have MM6 := Lib.hid (MMr.out.kept K6.out (by simp))
          have DM6 := Lib.hid (DMr.out.kept K6.out (by simp))
          have hlk : (Instr.lookup 63 (.map (some (md + 1))) (.string ⟨#[46, 111, 117, 116, 112, 117, 116]⟩) false).run Tryz.prog w6 = .ok (.int .i64 (manyR (RS.take k) (wordK 4) : Nat)) w6 := MM6.out.look (wordK 4) (by decide)
          have hml : manyR (RS.take k) (wordK 4) ≤ k := by
            have h := List.countP_le_length (p := fun r : Rec => wordK r.kd == wordK 4) (l := RS.take k)
            rw [List.length_take] at h
            exact Nat.le_trans h (Nat.min_le_left _ _)
          have hwr : IntKind.i64.wrap ((manyR (RS.take k) (wordK 4) : Int) + 1) = (manyR (RS.take k) (wordK 4) : Int) + 1 := IntWalk.i64_in _ (by omega)
          have n0 : (0 : Int) < (nw : Int) := by omega
          have n1 : 0 < nw := by omega
          have hbm : bw ∉ [md + 1] := by have := SBW.out; simp; omega
          have HNX := Lib.hid hnw
          clear hnn hnw
          go_wp2_with (at_mapUpdate; refine wpList_many (r := ⟨4, nm, nums⟩) rfl rfl rfl rfl rfl MM6.out (by show (wordK 4).length ≤ 1000; decide) ?_; intro w7 hm7 hk7; have c7 := hk7.cell c0 hbm)
          have K7 := Lib.hid (show Kept [md, md + 1] w6 w7 from hk7.more (by simp))
          have MM7 := Lib.hid hm7
          have DM7 := Lib.hid (DM6.out.kept hk7 (by simp))
          have KW7 := Lib.hid (show Kept [] w w7 from kept_up (KWr.out.trans K6.out) hk7 (fun b hb => by simp at hb; have := SMD.out; omega))
          have HN7 := Lib.hid (show NetAt w7 n F R N from (HN6.out.kept0 K6.out).kept hk7 (fun b hb h => by have := N2.out.lt.1 b hb; have := HMD.out; simp at h; omega) (fun b hb h => by have := N2.out.lt.2 b hb; have := HMD.out; simp at h; omega))
          have SZ7 := Lib.hid (show bw < w7.heap.size from by have := SBW.out; have := hk7.size; omega)
          have hui : (Tryz.prog.info? 66).map (fun i => (i.zero, i.size, i.bytes)) = some (some (.int .u64 0), 1, 8) := by kernel_rfl
          have HUI := Lib.hid hui
          clear hm7 hk7 c7 c0 hlk hml hwr hbm hui
          go_loopw [19, 17] (fun i v wi => ∃ (x j : Nat) (a : Option Addr) (c : Nat), x = 2 + j ∧ j ≤ nn ∧ i = .int .i64 (x : Int) ∧ v = .slice a j c ∧ Own wi 66 a j c (nats .u64 (nums.take j)) ∧ Kept [] w7 wi ∧ ∀ b ∈ ft a, w7.heap.size ≤ b) (fun i _ _ => 2 + nn - (intOf i).toNat)
          case atStart => exact ⟨2, 0, none, 0, rfl, Nat.zero_le _, rfl, rfl, Own.nil _ _, .refl _ _, by simp [ft]⟩
          case round =>
            obtain ⟨x, j, a, c, hx, hj, rfl, rfl, ho, hki, hfa⟩ := hrel
            have HO := Lib.hid ho
            have KI := Lib.hid hki
            have FA := Lib.hid hfa
            have HX := Lib.hid hx
            clear ho hki hfa hx
            by_cases hlj : j < nn
            · obtain ⟨u, hu⟩ : ∃ u, nums[j]? = some u := ⟨_, List.getElem?_eq_getElem (by rw [← HNN.out]; exact hlj)⟩
              have HU := Lib.hid hu
              have HPU := Lib.hid (HP.out wr u (HOK.out.lt u (List.mem_of_getElem? hu)))
              have hcell : wr.cell? ⟨bw, x, none⟩ = some (.string ⟨(Lib.decDigits u).toArray⟩) := HCW.out wr (K7.out.trans (KI.out.more (by simp))) x _ (by
                rw [HX.out]
                simp [List.getElem?_append, hu, Nat.add_comm])
              have x0 : (0 : Int) ≤ (x : Int) := by omega
              have x1 : (x : Int) < (nw : Int) := by have := HX.out; have := HNX.out; omega
              have x2 : x ≤ 200 := by have := HX.out; omega
              clear hu
              go_wp2_with fail
              refine HPU.out.mono ?_
              rintro e w8 ⟨rfl, k8⟩
              have HO8 := Lib.hid (HO.out.kept0 k8)
              have K8 := Lib.hid (KI.out.trans k8)
              clear k8 hcell
              have ho8 := HO8.out
              have hui := HUI.out
              go_wp2_with (at_builtin; refine wpList_push rfl rfl Tryz.underlying65 hui rfl rfl rfl ho8 rfl (by unfold maxLen; omega) (by omega) ?_; intro a9 c9 w9 ho9 hs9)
              go_roundw
              case rel => exact ⟨x + 1, j + 1, a9, c9, by have := HX.out; omega, by omega, by go_num, rfl, by rw [take_next HU.out, ← nats_append]; exact ho9, kept_up K8.out hs9.kept FA.out, fun b hb => by
                rcases hs9.fresh b hb with h | h
                · exact FA.out b h
                · exact Nat.le_trans K8.out.size h⟩
              case measure => simp [intOf]; have := HX.out; omega
            · obtain rfl : j = nn := by omega
              have HTN := Lib.hid (show nums.take j = nums from List.take_of_length_le (by rw [← HNN.out]; exact Nat.le_refl _))
              have x1 : ¬ (x : Int) < (nw : Int) := by have := HX.out; have := HNX.out; omega
              have ho2 := HO.out
              rw [HTN.out] at ho2
              have HO2 := Lib.hid ho2
              have DM9 := Lib.hid (DM7.out.kept KI.out (by simp))
              have MM9 := Lib.hid (MM7.out.kept KI.out (by simp))
              have KW9 := Lib.hid (KW7.out.trans KI.out)
              have HN9 := Lib.hid (HN7.out.kept0 KI.out)
              have K9 := Lib.hid (show Kept [md, md + 1] w6 wr from K7.out.trans (KI.out.more (by simp)))
              have d0 : wr.cell? ⟨bw, 0, none⟩ = some (.string ⟨#[46, 111, 117, 116, 112, 117, 116]⟩) := HCW.out wr K9.out 0 _ rfl
              have FA9 := Lib.hid (show ∀ b ∈ ft a, bw < b from fun b hb => Nat.lt_of_lt_of_le SZ7.out (FA.out b hb))
              clear ho2 HO DM7 MM7 HN7 FA HTN hlj
              obtain ⟨i, b, hb, hnb, hlb⟩ := HOK.out.k4 rfl
              simp only at hnb hlb
              obtain ⟨oa, oc, c4, hfc⟩ := findx_out HN9.out HF.out (by decide) (List.mem_of_getElem? hb)
              rw [show b.name = ⟨nm.toArray⟩ from by rw [hnb, str_bytesx], show b.lits.length = j from by rw [← hlb, HNN.out]] at hfc
              have HFC := Lib.hid hfc
              obtain ⟨nO, hnO⟩ : ∃ m, m = N.outb.length := ⟨_, rfl⟩
              rw [← hnO] at c4 HFC
              have c1w : wr.cell? ⟨bw, 1, none⟩ = some (.string ⟨nm.toArray⟩) := HCW.out wr K9.out 1 _ rfl
              have w1n : (1 : Int) < (nw : Int) := by have := HNX.out; omega
              have w1z : 1 < nw := by have := HNX.out; omega
              clear hfc hnO hb hnb hlb
              obtain ⟨w11, rfl⟩ : ∃ v : World, v = wr := ⟨_, rfl⟩
              go_wp2_with fail
              clear d0
              go_region_held3 (fun w' => w'.cell? ⟨n, 4, none⟩ = some (.slice oa nO oc) ∧ w'.cell? ⟨bw, 1, none⟩ = some (.string ⟨nm.toArray⟩))
                (first | exact keep_2 (w := w11) (by (repeat (first | with_reducible exact Kept.refl _ _ | with_reducible apply Kept.drew | with_reducible apply Kept.drewN | with_reducible apply Kept.alloc | refine Kept.trans ?_ k2))) c4 c1w | go_keep)
                (first | (go_at_call 23; (with_reducible refine (HFC.out _ ?kk).mono ?_); (case kk => ((repeat (first | with_reducible exact Kept.refl _ _ | with_reducible apply Kept.drew | with_reducible apply Kept.drewN | with_reducible apply Kept.alloc | refine Kept.trans ?_ k2)))); rintro e u2 ⟨a2, c2', rfl, k2⟩))
              all_goals
                have DMZ := Lib.hid (show DrvMap u2 md (drvs (RS.take (k + 1))) from by
                  rw [drvs_take HR.out, show drvR ⟨4, nm, nums⟩ = [] from rfl, List.append_nil]
                  exact DM9.out.kept (show Kept [] w11 u2 from by (repeat (first | with_reducible exact Kept.refl _ _ | with_reducible apply Kept.drew | with_reducible apply Kept.drewN | with_reducible apply Kept.alloc | refine Kept.trans ?_ k2))) (by simp))
                have MMZ := Lib.hid (show ManyMap u2 (md + 1) (RS.take (k + 1)) from by
                  rw [recs_take HR.out]
                  exact MM9.out.kept (show Kept [] w11 u2 from by (repeat (first | with_reducible exact Kept.refl _ _ | with_reducible apply Kept.drew | with_reducible apply Kept.drewN | with_reducible apply Kept.alloc | refine Kept.trans ?_ k2))) (by simp))
                have KZZ := Lib.hid (show Kept [md, md + 1] w5 u2 from KR.out.trans ((K6.out.more (by simp)).trans (K9.out.trans ((show Kept [] w11 u2 from by (repeat (first | with_reducible exact Kept.refl _ _ | with_reducible apply Kept.drew | with_reducible apply Kept.drewN | with_reducible apply Kept.alloc | refine Kept.trans ?_ k2))).more (by simp)))))
                clear k2 c4 c1w
                go_wp2_with fail
                refine ⟨⟨k + 1, by omega, by go_num, DMZ.out, MMZ.out, KZZ.out⟩, by simp [intOf]; omega⟩
        · as_aux_lemma =>
          have hnm : nm = [] := HOK.out.nm.2 (by simp)
          have HWR := Lib.hid (show wordsR ⟨5, nm, nums⟩ = wEnd :: nums.map Lib.decDigits from by unfold wordsR; rw [if_pos hnm]; rfl)
          clear hnm
          obtain ⟨nn, hnn⟩ : ∃ m, m = nums.length := ⟨_, rfl⟩
          have HNN := Lib.hid hnn
          have hn64 : nn ≤ 64 := by rw [hnn]; exact HOK.out.few
          have hnw : nw = 1 + nn := by rw [HNW.out, HWR.out, hnn]; simp; omega
          have HCW := Lib.hid (fun (W : World) (hk : Kept [md, md + 1] w6 W) (i : Nat) (s : List UInt8) (hi : (wEnd :: nums.map Lib.decDigits)[i]? = some s) => show W.cell? ⟨bw, i, none⟩ = some (.string ⟨s.toArray⟩) from by
            have h6 := hk.heap HB6.out (by have := SBW.out; simp; omega)
            rw [HWR.out] at h6
            obtain ⟨h1, h2⟩ := List.getElem?_eq_some_iff.1 hi
            rw [strs_cell h6 i h1, h2])
          have c0 : w6.cell? ⟨bw, 0, none⟩ = some (.string ⟨#[46, 101, 110, 100]⟩) := HCW.out w6 (.refl _ _) 0 _ rfl
          have MM6 := Lib.hid (MMr.out.kept K6.out (by simp))
          have DM6 := Lib.hid (DMr.out.kept K6.out (by simp))
          have hlk : (Instr.lookup 63 (.map (some (md + 1))) (.string ⟨#[46, 101, 110, 100]⟩) false).run Tryz.prog w6 = .ok (.int .i64 (manyR (RS.take k) (wordK 5) : Nat)) w6 := MM6.out.look (wordK 5) (by decide)
          have hml : manyR (RS.take k) (wordK 5) ≤ k := by
            have h := List.countP_le_length (p := fun r : Rec => wordK r.kd == wordK 5) (l := RS.take k)
            rw [List.length_take] at h
            exact Nat.le_trans h (Nat.min_le_left _ _)
          have hwr : IntKind.i64.wrap ((manyR (RS.take k) (wordK 5) : Int) + 1) = (manyR (RS.take k) (wordK 5) : Int) + 1 := IntWalk.i64_in _ (by omega)
          have n0 : (0 : Int) < (nw : Int) := by omega
          have n1 : 0 < nw := by omega
          have hbm : bw ∉ [md + 1] := by have := SBW.out; simp; omega
          have HNX := Lib.hid hnw
          clear hnn hnw
          go_wp2_with (at_mapUpdate; refine wpList_many (r := ⟨5, nm, nums⟩) rfl rfl rfl rfl rfl MM6.out (by show (wordK 5).length ≤ 1000; decide) ?_; intro w7 hm7 hk7; have c7 := hk7.cell c0 hbm)
          have K7 := Lib.hid (show Kept [md, md + 1] w6 w7 from hk7.more (by simp))
          have MM7 := Lib.hid hm7
          have DM7 := Lib.hid (DM6.out.kept hk7 (by simp))
          have KW7 := Lib.hid (show Kept [] w w7 from kept_up (KWr.out.trans K6.out) hk7 (fun b hb => by simp at hb; have := SMD.out; omega))
          have HN7 := Lib.hid (show NetAt w7 n F R N from (HN6.out.kept0 K6.out).kept hk7 (fun b hb h => by have := N2.out.lt.1 b hb; have := HMD.out; simp at h; omega) (fun b hb h => by have := N2.out.lt.2 b hb; have := HMD.out; simp at h; omega))
          have SZ7 := Lib.hid (show bw < w7.heap.size from by have := SBW.out; have := hk7.size; omega)
          have hui : (Tryz.prog.info? 66).map (fun i => (i.zero, i.size, i.bytes)) = some (some (.int .u64 0), 1, 8) := by kernel_rfl
          have HUI := Lib.hid hui
          clear hm7 hk7 c7 c0 hlk hml hwr hbm hui
          go_loopw [19, 17] (fun i v wi => ∃ (x j : Nat) (a : Option Addr) (c : Nat), x = 1 + j ∧ j ≤ nn ∧ i = .int .i64 (x : Int) ∧ v = .slice a j c ∧ Own wi 66 a j c (nats .u64 (nums.take j)) ∧ Kept [] w7 wi ∧ ∀ b ∈ ft a, w7.heap.size ≤ b) (fun i _ _ => 1 + nn - (intOf i).toNat)
          case atStart => exact ⟨1, 0, none, 0, rfl, Nat.zero_le _, rfl, rfl, Own.nil _ _, .refl _ _, by simp [ft]⟩
          case round =>
            obtain ⟨x, j, a, c, hx, hj, rfl, rfl, ho, hki, hfa⟩ := hrel
            have HO := Lib.hid ho
            have KI := Lib.hid hki
            have FA := Lib.hid hfa
            have HX := Lib.hid hx
            clear ho hki hfa hx
            by_cases hlj : j < nn
            · obtain ⟨u, hu⟩ : ∃ u, nums[j]? = some u := ⟨_, List.getElem?_eq_getElem (by rw [← HNN.out]; exact hlj)⟩
              have HU := Lib.hid hu
              have HPU := Lib.hid (HP.out wr u (HOK.out.lt u (List.mem_of_getElem? hu)))
              have hcell : wr.cell? ⟨bw, x, none⟩ = some (.string ⟨(Lib.decDigits u).toArray⟩) := HCW.out wr (K7.out.trans (KI.out.more (by simp))) x _ (by
                rw [HX.out]
                simp [List.getElem?_append, hu, Nat.add_comm])
              have x0 : (0 : Int) ≤ (x : Int) := by omega
              have x1 : (x : Int) < (nw : Int) := by have := HX.out; have := HNX.out; omega
              have x2 : x ≤ 200 := by have := HX.out; omega
              clear hu
              go_wp2_with fail
              refine HPU.out.mono ?_
              rintro e w8 ⟨rfl, k8⟩
              have HO8 := Lib.hid (HO.out.kept0 k8)
              have K8 := Lib.hid (KI.out.trans k8)
              clear k8 hcell
              have ho8 := HO8.out
              have hui := HUI.out
              go_wp2_with (at_builtin; refine wpList_push rfl rfl Tryz.underlying65 hui rfl rfl rfl ho8 rfl (by unfold maxLen; omega) (by omega) ?_; intro a9 c9 w9 ho9 hs9)
              go_roundw
              case rel => exact ⟨x + 1, j + 1, a9, c9, by have := HX.out; omega, by omega, by go_num, rfl, by rw [take_next HU.out, ← nats_append]; exact ho9, kept_up K8.out hs9.kept FA.out, fun b hb => by
                rcases hs9.fresh b hb with h | h
                · exact FA.out b h
                · exact Nat.le_trans K8.out.size h⟩
              case measure => simp [intOf]; have := HX.out; omega
            · obtain rfl : j = nn := by omega
              have HTN := Lib.hid (show nums.take j = nums from List.take_of_length_le (by rw [← HNN.out]; exact Nat.le_refl _))
              have x1 : ¬ (x : Int) < (nw : Int) := by have := HX.out; have := HNX.out; omega
              have ho2 := HO.out
              rw [HTN.out] at ho2
              have HO2 := Lib.hid ho2
              have DM9 := Lib.hid (DM7.out.kept KI.out (by simp))
              have MM9 := Lib.hid (MM7.out.kept KI.out (by simp))
              have KW9 := Lib.hid (KW7.out.trans KI.out)
              have HN9 := Lib.hid (HN7.out.kept0 KI.out)
              have K9 := Lib.hid (show Kept [md, md + 1] w6 wr from K7.out.trans (KI.out.more (by simp)))
              have d0 : wr.cell? ⟨bw, 0, none⟩ = some (.string ⟨#[46, 101, 110, 100]⟩) := HCW.out wr K9.out 0 _ rfl
              have FA9 := Lib.hid (show ∀ b ∈ ft a, bw < b from fun b hb => Nat.lt_of_lt_of_le SZ7.out (FA.out b hb))
              clear ho2 HO DM7 MM7 HN7 FA HTN hlj
              have g5 := HOK.out.k5 rfl
              simp only at g5
              have hnn0 : j = 0 := by rw [HNN.out, g5.2.1]; rfl
              have hnwx := HNX.out
              rw [hnn0] at hnwx
              subst hnwx
              have hk1 : k + 1 = nL := by rw [← HRL.out, HRS.out]; exact g5.1
              have hkz : ((nL : Int) - 1) = (k : Int) := by omega
              have hkw : IntKind.i64.wrap ((nL : Int) - 1) = (k : Int) := by rw [hkz]; exact IntWalk.i64_in _ (by omega)
              clear hkz
              go_wp2_with fail
              refine ⟨⟨k + 1, by omega, by go_num, by rw [drvs_take HR.out]; exact (List.append_nil _).symm ▸ DM9.out, by rw [recs_take HR.out]; exact MM9.out, KR.out.trans ((K6.out.more (by simp)).trans K9.out)⟩, by simp [intOf]; omega⟩
      · obtain rfl : k = nL := by omega
        have HTK := Lib.hid (show RS.take k = RS from List.take_of_length_le (by rw [HRL.out]; exact Nat.le_refl _))
        have DMx := Lib.hid (show DrvMap wr md (drvs RS) from by have h := DMr.out; rw [HTK.out] at h; exact h)
        have MMx := Lib.hid (show ManyMap wr (md + 1) RS from by have h := MMr.out; rw [HTK.out] at h; exact h)
        have HNx := Lib.hid (show NetAt wr n F R N from HN5.out.kept KR.out (fun b hb h => by have := N2.out.lt.1 b hb; have := HMD.out; simp at h; omega) (fun b hb h => by have := N2.out.lt.2 b hb; have := HMD.out; simp at h; omega))
        obtain ⟨w6, rfl⟩ : ∃ v : World, v = wr := ⟨_, rfl⟩
        obtain ⟨pg, Gg, hc0, hG⟩ := HNx.out.graphx
        have HC0' := Lib.hid hc0
        have HGG := Lib.hid hG
        obtain ⟨nn, hnn⟩ : ∃ m, m = N.g.nodes.length := ⟨_, rfl⟩
        have HNN := Lib.hid hnn
        have hn1 : 1 ≤ nn := by rw [hnn]; exact HF.out.ok.wf.pos
        have hn2 : nn ≤ 4000 := by rw [hnn]; have := HF.out.ok.len; omega
        have HDL := Lib.hid (show (drvs RS).length + 1 = nn from by rw [hnn, HRS.out]; exact drvs_len HF.out HC0.out)
        have HND := Lib.hid (fun (W : World) (hk : Kept [] w6 W) => show Calls Tryz.prog 8 #[.pointer (some ⟨pg, 0, none⟩)] W (fun e w' => e = .returned (.int .i64 (nn : Nat)) ∧ W = w') from by
          have h := aig_nodes (HGG.out.kept0 hk) (by rw [← HNN.out]; omega)
          rw [← HNN.out] at h
          exact h)
        clear hc0 hG hnn hlt hk
        go_wp2_with fail
        go_loopw [28] (fun v wi => ∃ y : Nat, 1 ≤ y ∧ y ≤ nn ∧ v = .int .i64 y ∧ Kept [] w6 wi) (fun v _ => nn - (intOf v).toNat)
        case atStart => exact ⟨1, by omega, hn1, rfl, .refl _ _⟩
        case round =>
          obtain ⟨y, hy1, hy2, rfl, hky⟩ := hrel
          have KY := Lib.hid hky
          have c0 : wr.cell? ⟨n, 0, none⟩ = some (.pointer (some ⟨pg, 0, none⟩)) := hky.cell HC0'.out (by simp)
          clear hky
          by_cases hly : y < nn
          · have hin : 2 * y ∈ drvs RS := by
              rw [HRS.out, drvs_N]
              exact drv_all HF.out HC0.out y hy1 (by rw [← HNN.out]; exact hly)
            have hlk : (Instr.lookup 62 (.map (some md)) (.int .u64 (2 * (y : Int))) false).run Tryz.prog wr = .ok (.int .i64 1) wr := by
              have h := (DMx.out.kept KY.out (by simp)).look (2 * y) (by omega)
              rw [if_pos hin, show ((2 * y : Nat) : Int) = 2 * (y : Int) from by omega] at h
              exact h
            have hw1 : IntKind.i64.wrap (2 * (y : Int)) = 2 * (y : Int) := IntWalk.i64_in _ (by omega)
            have hw2 : IntKind.u64.wrap (2 * (y : Int)) = 2 * (y : Int) := IntWalk.u64_in _ (by omega)
            clear hin
            go_wp2_with fail
            refine (HND.out wr KY.out).mono ?_
            rintro e w' ⟨rfl, rfl⟩
            go_wp2_with fail
            go_roundw
            case rel => exact ⟨y + 1, by omega, by omega, by go_num, KY.out⟩
            case measure => simp [intOf]; omega
          · obtain rfl : y = nn := by omega
            go_wp2_with fail
            refine (HND.out wr KY.out).mono ?_
            rintro e w' ⟨rfl, rfl⟩
            go_wp2_with fail
            have HNy := Lib.hid (HNx.out.kept0 KY.out)
            have HMN := Lib.hid (many_N N)
            obtain ⟨p, G, ia, ic, ra, rc, oa, oc, ri, ro, hFe, hRe, hc⟩ := HNy.out
            obtain ⟨nI, hnI⟩ : ∃ m, m = N.inb.length := ⟨_, rfl⟩
            obtain ⟨nR, hnR⟩ : ∃ m, m = N.regs.length := ⟨_, rfl⟩
            obtain ⟨nO, hnO⟩ : ∃ m, m = N.outb.length := ⟨_, rfl⟩
            have HNI := Lib.hid hnI
            have HNR := Lib.hid hnR
            have HNO := Lib.hid hnO
            have HCC := Lib.hid hc
            have c2 := hc.c2
            have c3 := hc.c3
            have c4 := hc.c4
            rw [← hnI] at c2
            rw [← hnR] at c3
            rw [← hnO] at c4
            have hGp : p = pg := by
              have h := hc.c0
              rw [c0] at h
              injection h with h
              injection h with h
              injection h with h
              injection h with h
              exact h.symm
            subst hGp
            obtain ⟨gq, hgq⟩ : ∃ m, m = gatesN N.g := ⟨_, rfl⟩
            have HGT := Lib.hid (fun (i : Nat) => show Calls Tryz.prog 24 #[.pointer (some ⟨p, 0, none⟩)] (wr.drewN i) (fun e w' => e = .returned (.int .i64 gq) ∧ ∃ m, w' = (wr.drewN i).drewN m) from by
              have h := aig_gates (HCC.out.gr.kept0 ((Kept.refl [] wr).drewN i)) (by have := HF.out.ok.len; omega)
              rw [← hgq] at h
              exact h)
            have HNDq := Lib.hid (fun (i : Nat) => HND.out (wr.drewN i) (KY.out.trans ((Kept.refl [] wr).drewN i)))
            have MMq := fun i : Nat => MMx.out.kept (KY.out.trans ((Kept.refl [] wr).drewN i)) (by simp)
            have DMq := fun i : Nat => DMx.out.kept (KY.out.trans ((Kept.refl [] wr).drewN i)) (by simp)
            obtain ⟨dl, hdl⟩ : ∃ m, m = (drvs RS).length := ⟨_, rfl⟩
            have hdw : IntKind.i64.wrap ((y : Int) - 1) = (dl : Int) := by
              have := HDL.out
              rw [show ((y : Int) - 1) = (dl : Int) by omega]
              exact IntWalk.i64_in _ (by omega)
            have hlen : ∀ i ty, (Builtin.len_ #[62] ty #[.map (some md)]).run Tryz.prog (wr.drewN i) = .ok (.int .i64 (dl : Int)) (wr.drewN i) := fun i ty => by
              rw [hdl]
              exact MapG.len (DMq i) Tryz.underlying62 ty
            have look : ∀ i s v, s.length ≤ 1000 → ((manyR (recsN N) s : Nat) : Int) = v → (Instr.lookup 63 (.map (some (md + 1))) (.string ⟨s.toArray⟩) false).run Tryz.prog (wr.drewN i) = .ok (.int .i64 v) (wr.drewN i) := fun i s v hs hv => by
              have h := (MMq i).look s hs
              rw [HRS.out, hv] at h
              exact h
            have l0 : ∀ i, (Instr.lookup 63 (.map (some (md + 1))) (.string ⟨#[46, 109, 111, 100, 101, 108]⟩) false).run Tryz.prog (wr.drewN i) = .ok (.int .i64 1) (wr.drewN i) := fun i => look i wModel 1 (by decide) (by rw [HMN.out.1]; rfl)
            have l1 : ∀ i, (Instr.lookup 63 (.map (some (md + 1))) (.string ⟨#[46, 105, 110, 112, 117, 116]⟩) false).run Tryz.prog (wr.drewN i) = .ok (.int .i64 (nI : Int)) (wr.drewN i) := fun i => look i wInput nI (by decide) (by rw [HMN.out.2.1, hnI])
            have l2 : ∀ i, (Instr.lookup 63 (.map (some (md + 1))) (.string ⟨#[46, 108, 97, 116, 99, 104]⟩) false).run Tryz.prog (wr.drewN i) = .ok (.int .i64 (nR : Int)) (wr.drewN i) := fun i => look i wLatch nR (by decide) (by rw [HMN.out.2.2.1, hnR])
            have l3 : ∀ i, (Instr.lookup 63 (.map (some (md + 1))) (.string ⟨#[46, 97, 110, 100]⟩) false).run Tryz.prog (wr.drewN i) = .ok (.int .i64 gq) (wr.drewN i) := fun i => look i wAnd gq (by decide) (by rw [HMN.out.2.2.2.1, hgq]; exact gates_len HF.out.ok.wf HF.out.ok.wf.pos)
            have l4 : ∀ i, (Instr.lookup 63 (.map (some (md + 1))) (.string ⟨#[46, 111, 117, 116, 112, 117, 116]⟩) false).run Tryz.prog (wr.drewN i) = .ok (.int .i64 (nO : Int)) (wr.drewN i) := fun i => look i wOutput nO (by decide) (by rw [HMN.out.2.2.2.2.1, hnO])
            have l5 : ∀ i, (Instr.lookup 63 (.map (some (md + 1))) (.string ⟨#[46, 101, 110, 100]⟩) false).run Tryz.prog (wr.drewN i) = .ok (.int .i64 1) (wr.drewN i) := fun i => look i wEnd 1 (by decide) (by rw [HMN.out.2.2.2.2.2]; rfl)
            clear look MMq DMq hnI hnR hnO hc hgq hdl hly hy2
            go_quiet (first
              | (go_at_call 8; (with_reducible exact q_same (HNDq.out _)))
              | (go_at_call 24; (with_reducible exact q_drew (HGT.out _))))
            clear l0 l1 l2 l3 l4 l5 hlen hdw
            go_wp2_with fail
            have KWQ := Lib.hid (show Kept [] w (wr.drewN nq) from KWr.out.trans (KY.out.trans ((Kept.refl [] wr).drewN nq)))
            have HNq := Lib.hid (HNy.out.kept0 ((Kept.refl [] wr).drewN nq))
            have HCP := Lib.hid (net_copy_x HNq.out (by have h := HF.out.ok; have := h.len; have := h.ik; have := h.rk; have := h.ok; exact ⟨by omega, by omega, by omega, by omega⟩) (fun b hb => by have := (HF.out.ok.il b hb).2.1; omega) (fun b hb => by have := (HF.out.ok.ol b hb).2.1; omega))
            refine HCP.out.mono ?_
            rintro e v1 ⟨n', p', G', ia', ic', ra', rc', oa', oc', ri', ro', rfl, hc', hk', hfr', hap', how', hio'⟩
            have HC' := Lib.hid hc'
            have HK' := Lib.hid hk'
            have HFR := Lib.hid hfr'
            have HAP := Lib.hid hap'
            have HOWR := Lib.hid how'
            have HIO := Lib.hid hio'
            have K1' := Lib.hid (KWQ.out.trans hk')
            have x3 : v1.cell? ⟨n, 3, none⟩ = some (.slice ra nR rc) := ((Kept.refl [] wr).drewN nq |>.trans hk').cell c3 (by simp)
            have x4 : v1.cell? ⟨n, 4, none⟩ = some (.slice oa nO oc) := ((Kept.refl [] wr).drewN nq |>.trans hk').cell c4 (by simp)
            have y1 : v1.cell? ⟨n', 1, none⟩ = some (.string N.name) := hc'.c1
            have y3 : v1.cell? ⟨n', 3, none⟩ = some (.slice ra' nR rc') := by have h := hc'.c3; rw [← HNR.out] at h; exact h
            have y4 : v1.cell? ⟨n', 4, none⟩ = some (.slice oa' nO oc') := by have h := hc'.c4; rw [← HNO.out] at h; exact h
            have fz1 : v1.frozen? ⟨n', 1, none⟩ = false := blk_free hc'.blk 1
            have hnR : nR ≤ 60 := by rw [HNR.out]; exact HF.out.ok.rk
            have hnO : nO ≤ 60 := by rw [HNO.out]; exact HF.out.ok.ok
            clear c0 c2 c3 c4 hc' hk' hfr' hap' how' hio'
            obtain ⟨xx, hxx⟩ : ∃ x, x = how / 4 := ⟨_, rfl⟩
            have hq4 : (how : Int) / 4 = (xx : Int) := by omega
            have hxx64 : xx < 64 := by omega
            have htd : Int.tdiv (how : Int) 4 = (xx : Int) := by rw [Int.tdiv_eq_ediv_of_nonneg (by omega)]; exact hq4
            have hw8 : IntKind.u8.wrap (xx : Int) = (xx : Int) := by rw [IntKind.wrap_u8]; omega
            have hw6 : IntKind.i64.wrap (xx : Int) = (xx : Int) := IntWalk.i64_in _ (by omega)
            have KUQ := Lib.hid (show Kept [] u1 (wr.drewN nq) from (kept_up (KW2.out.trans K5.out) KR.out (fun b hb => by simp at hb; have := HMD.out; omega)).trans (KY.out.trans ((Kept.refl [] wr).drewN nq)))
            by_cases hA0 : how % 4 = 0 ∧ 0 < nR
            · as_aux_lemma =>
              have hm4 : (how : Int) % 4 = 0 := by omega
              have hRp : (0 : Int) < (nR : Int) := by omega
              have hRp1 : ¬ nR = 0 := by omega
              have hRp2 : ¬ (nR : Int) = 0 := by omega
              obtain ⟨ix, hix⟩ : ∃ x, x = xx % nR := ⟨_, rfl⟩
              have hrm : (xx : Int) % (nR : Int) = (ix : Int) := by rw [hix]; simp
              have hixl : ix < nR := by rw [hix]; exact Nat.mod_lt _ (by omega)
              have htm : Int.tmod (xx : Int) (nR : Int) = (ix : Int) := by rw [Int.tmod_eq_emod_of_nonneg (by omega)]; exact hrm
              have hw3 : IntKind.i64.wrap (ix : Int) = (ix : Int) := IntWalk.i64_in _ (by omega)
              have i0 : (0 : Int) ≤ (ix : Int) := by omega
              have i1 : (ix : Int) < (nR : Int) := by omega
              have hixr : ix < N.regs.length := by rw [← HNR.out]; exact hixl
              obtain ⟨rg, hrg⟩ : ∃ r, N.regs[ix]? = some r := ⟨_, List.getElem?_eq_getElem hixr⟩
              obtain ⟨gr, rfl, e0, e1, e2, e3⟩ := regs_sl (l := N.regs) rfl HC'.out.rb ix hixr
              have hrgi : N.regs[ix] = rg := (List.getElem?_eq_some_iff.1 hrg).2
              rw [hrgi] at e0 e1 e2 e3
              have f1 : v1.frozen? ⟨gr, ix * 4 + 1, none⟩ = false := World.ownsRow.frozenAt HC'.out.rb _
              have f3 : v1.frozen? ⟨gr, ix * 4 + 3, none⟩ = false := World.ownsRow.frozenAt HC'.out.rb _
              have HRGM := Lib.hid (HF.out.ok.rl rg (List.mem_of_getElem? hrg))
              have HRG := Lib.hid hrg
              clear hxx hix hrg hrgi hixr hA0
              go_wp2_with fail
              go_quiet (fail)
              go_wp2_with fail
              have KPRE := Lib.hid ((Kept.refl [] v1).drewN nq)
              have hput := put_init (HC'.out.kept0q nq) HRG.out (!rg.init)
              obtain ⟨v2, hv2⟩ : ∃ v, v = (v1.drewN nq).setCell ⟨gr, ix * 4 + 3, none⟩ (.bool (!rg.init)) := ⟨_, rfl⟩
              obtain ⟨N2, hN2⟩ : ∃ x, x = withReg N ix { rg with init := !rg.init } := ⟨_, rfl⟩
              have NB := Lib.hid (show w.heap.size ≤ gr ∧ u1.heap.size ≤ gr from by
                have h1 := HFR.out gr (by simp [ft])
                have h2 := KWQ.out.size
                have h3 := KUQ.out.size
                exact ⟨by omega, by omega⟩)
              have KV := Lib.hid (show Kept [] w v2 from kept_up (K1'.out.trans KPRE.out) (by rw [hv2]; exact hput.2) (fun b hb => by simp at hb; subst hb; exact NB.out.1))
              have UVK := Lib.hid (show Kept [] u1 v2 from kept_up ((KUQ.out.trans HK'.out).trans KPRE.out) (by rw [hv2]; exact hput.2) (fun b hb => by simp at hb; subst hb; exact NB.out.2))
              have NV := Lib.hid (show NetAt v2 n' (n' :: (G' ++ (ft ia' ++ (ft (some ⟨gr, 0, none⟩) ++ ft oa')))) (rowsOf ri' ++ rowsOf ro') N2 from ⟨p', G', ia', ic', (some ⟨gr, 0, none⟩), rc', oa', oc', ri', ro', rfl, rfl, by rw [hv2, hN2]; exact hput.1⟩)
              have FC := fine_reg HF.out HC0.out HRG.out (r' := { rg with init := !rg.init }) rfl HRGM.out.2.1 HRGM.out.2.2
              have FV := Lib.hid (show NtFine 60 N2 from by rw [hN2]; exact FC.1)
              have CV := Lib.hid (show checkN N2 = 0 from by rw [hN2]; exact FC.2)
              have TNE := Lib.hid (show textL (linesN N2) ≠ textL (linesN N) from by rw [hN2]; exact text_reg HF.out (by decide) HC0.out HRG.out rfl HRGM.out.2.1 HRGM.out.2.2 (.inr (by cases rg.init <;> simp)))
              clear hput FC
              rw [← hv2]
              clear hv2 hN2
              have HA2 := Lib.hid (HA.out v2 n' _ _ N2 KV.out NV.out FV.out)
              unfold AllX at HA2
              rw [CV.out] at HA2
              have UV := Lib.hid (show Kept [] u1 v2 from UVK.out)
              refine HA2.out.mono ?_
              rintro e v3 ⟨vv, rfl, r3, k3⟩
              obtain ⟨a3, c3', rfl⟩ := ownsRow_anyx r3
              have z1 := own_strx r3 rfl
              have z2 := own_strx (own_keptBx R1'.out (UV.out.trans k3) (by simp)) HTL.out.symm
              have K3 := Lib.hid (KV.out.trans k3)
              clear r3 k3
              generalize textL (linesN N2) = T2 at *
              generalize textL (linesN N) = T1 at *
              generalize T2.length = t2 at *
              have hbq : (T2 == T1) = false := by simpa using TNE.out
              go_wp2_with fail
              refine (HT.out _ K3.out).mono ?_
              rintro e v4 ⟨rfl, k4⟩
              have K4 := Lib.hid (K3.out.trans k4)
              clear k4
              go_wp2_with fail
              go_ret
              exact ⟨rfl, K4.out⟩
            by_cases hA1 : how % 4 = 1 ∧ 0 < nR
            · as_aux_lemma =>
              have hm4 : (how : Int) % 4 = 1 := by omega
              have hRp : (0 : Int) < (nR : Int) := by omega
              have hRp1 : ¬ nR = 0 := by omega
              have hRp2 : ¬ (nR : Int) = 0 := by omega
              obtain ⟨ix, hix⟩ : ∃ x, x = xx % nR := ⟨_, rfl⟩
              have hrm : (xx : Int) % (nR : Int) = (ix : Int) := by rw [hix]; simp
              have hixl : ix < nR := by rw [hix]; exact Nat.mod_lt _ (by omega)
              have htm : Int.tmod (xx : Int) (nR : Int) = (ix : Int) := by rw [Int.tmod_eq_emod_of_nonneg (by omega)]; exact hrm
              have hw3 : IntKind.i64.wrap (ix : Int) = (ix : Int) := IntWalk.i64_in _ (by omega)
              have i0 : (0 : Int) ≤ (ix : Int) := by omega
              have i1 : (ix : Int) < (nR : Int) := by omega
              have hixr : ix < N.regs.length := by rw [← HNR.out]; exact hixl
              obtain ⟨rg, hrg⟩ : ∃ r, N.regs[ix]? = some r := ⟨_, List.getElem?_eq_getElem hixr⟩
              obtain ⟨gr, rfl, e0, e1, e2, e3⟩ := regs_sl (l := N.regs) rfl HC'.out.rb ix hixr
              have hrgi : N.regs[ix] = rg := (List.getElem?_eq_some_iff.1 hrg).2
              rw [hrgi] at e0 e1 e2 e3
              have f1 : v1.frozen? ⟨gr, ix * 4 + 1, none⟩ = false := World.ownsRow.frozenAt HC'.out.rb _
              have f3 : v1.frozen? ⟨gr, ix * 4 + 3, none⟩ = false := World.ownsRow.frozenAt HC'.out.rb _
              have HRGM := Lib.hid (HF.out.ok.rl rg (List.mem_of_getElem? hrg))
              have HRG := Lib.hid hrg
              clear hxx hix hrg hrgi hixr hA1
              have HD32 := Lib.hid (show rg.d < 4294967296 from ok_lt32 HF.out.ok (by decide) HRGM.out.2.1)
              go_wp2_with fail
              go_quiet (fail)
              go_wp2_with fail
              refine (lit_not rg.d _ HD32.out).mono ?_
              rintro e w' ⟨rfl, rfl⟩
              go_wp2_with fail
              have KPRE := Lib.hid ((Kept.refl [] v1).drewN nq)
              have hput := put_d (HC'.out.kept0q nq) HRG.out (ntL rg.d)
              have HOD := Lib.hid (show N.g.ok (ntL rg.d) from ntL_okx HRGM.out.2.1)
              obtain ⟨v2, hv2⟩ : ∃ v, v = (v1.drewN nq).setCell ⟨gr, ix * 4 + 1, none⟩ (.int .u32 (ntL rg.d : Nat)) := ⟨_, rfl⟩
              obtain ⟨N2, hN2⟩ : ∃ x, x = withReg N ix { rg with d := ntL rg.d } := ⟨_, rfl⟩
              have NB := Lib.hid (show w.heap.size ≤ gr ∧ u1.heap.size ≤ gr from by
                have h1 := HFR.out gr (by simp [ft])
                have h2 := KWQ.out.size
                have h3 := KUQ.out.size
                exact ⟨by omega, by omega⟩)
              have KV := Lib.hid (show Kept [] w v2 from kept_up (K1'.out.trans KPRE.out) (by rw [hv2]; exact hput.2) (fun b hb => by simp at hb; subst hb; exact NB.out.1))
              have UVK := Lib.hid (show Kept [] u1 v2 from kept_up ((KUQ.out.trans HK'.out).trans KPRE.out) (by rw [hv2]; exact hput.2) (fun b hb => by simp at hb; subst hb; exact NB.out.2))
              have NV := Lib.hid (show NetAt v2 n' (n' :: (G' ++ (ft ia' ++ (ft (some ⟨gr, 0, none⟩) ++ ft oa')))) (rowsOf ri' ++ rowsOf ro') N2 from ⟨p', G', ia', ic', (some ⟨gr, 0, none⟩), rc', oa', oc', ri', ro', rfl, rfl, by rw [hv2, hN2]; exact hput.1⟩)
              have FC := fine_reg HF.out HC0.out HRG.out (r' := { rg with d := ntL rg.d }) rfl HOD.out HRGM.out.2.2
              have FV := Lib.hid (show NtFine 60 N2 from by rw [hN2]; exact FC.1)
              have CV := Lib.hid (show checkN N2 = 0 from by rw [hN2]; exact FC.2)
              have TNE := Lib.hid (show textL (linesN N2) ≠ textL (linesN N) from by rw [hN2]; exact text_reg HF.out (by decide) HC0.out HRG.out rfl HOD.out HRGM.out.2.2 (.inl (ntL_nex rg.d)))
              clear hput FC
              rw [← hv2]
              clear hv2 hN2
              have HA2 := Lib.hid (HA.out v2 n' _ _ N2 KV.out NV.out FV.out)
              unfold AllX at HA2
              rw [CV.out] at HA2
              have UV := Lib.hid (show Kept [] u1 v2 from UVK.out)
              refine HA2.out.mono ?_
              rintro e v3 ⟨vv, rfl, r3, k3⟩
              obtain ⟨a3, c3', rfl⟩ := ownsRow_anyx r3
              have z1 := own_strx r3 rfl
              have z2 := own_strx (own_keptBx R1'.out (UV.out.trans k3) (by simp)) HTL.out.symm
              have K3 := Lib.hid (KV.out.trans k3)
              clear r3 k3
              generalize textL (linesN N2) = T2 at *
              generalize textL (linesN N) = T1 at *
              generalize T2.length = t2 at *
              have hbq : (T2 == T1) = false := by simpa using TNE.out
              go_wp2_with fail
              refine (HT.out _ K3.out).mono ?_
              rintro e v4 ⟨rfl, k4⟩
              have K4 := Lib.hid (K3.out.trans k4)
              clear k4
              go_wp2_with fail
              go_ret
              exact ⟨rfl, K4.out⟩
            by_cases hA2 : how % 4 = 2 ∧ 0 < nO
            · as_aux_lemma =>
              have hm4 : (how : Int) % 4 = 2 := by omega
              have hRp : (0 : Int) < (nO : Int) := by omega
              have hRp1 : ¬ nO = 0 := by omega
              have hRp2 : ¬ (nO : Int) = 0 := by omega
              obtain ⟨ix, hix⟩ : ∃ x, x = xx % nO := ⟨_, rfl⟩
              have hrm : (xx : Int) % (nO : Int) = (ix : Int) := by rw [hix]; simp
              have hixl : ix < nO := by rw [hix]; exact Nat.mod_lt _ (by omega)
              have htm : Int.tmod (xx : Int) (nO : Int) = (ix : Int) := by rw [Int.tmod_eq_emod_of_nonneg (by omega)]; exact hrm
              have hw3 : IntKind.i64.wrap (ix : Int) = (ix : Int) := IntWalk.i64_in _ (by omega)
              have i0 : (0 : Int) ≤ (ix : Int) := by omega
              have i1 : (ix : Int) < (nO : Int) := by omega
              have hixr : ix < ro'.length := by have h := congrArg List.length HC'.out.ob.is; rw [List.length_map, ← HNO.out] at h; omega
              obtain ⟨go, rfl, b0, b1⟩ := HC'.out.ob.slb ix hixr
              have hbo : N.outb[ix]? = some ro'[ix].b := by rw [← HC'.out.ob.is, List.getElem?_map, List.getElem?_eq_getElem hixr]; rfl
              have HBM2 := Lib.hid (HF.out.ok.ol _ (List.mem_of_getElem? hbo))
              obtain ⟨ll, hll⟩ : ∃ x, x = ro'[ix].b.lits.length := ⟨_, rfl⟩
              have hl1 : 1 ≤ ll := by rw [hll]; exact HBM2.out.1
              have hl2 : ll ≤ 64 := by rw [hll]; exact HBM2.out.2.1
              obtain ⟨gl, hgl⟩ : ∃ x, x = ll - 1 := ⟨_, rfl⟩
              have hglt : gl < ro'[ix].b.lits.length := by omega
              obtain ⟨gr, hra, t0, t1, tin, _, _⟩ := put_lit HC'.out HAP.out HOWR.out HIO.out hixr gl 0 hglt
              obtain ⟨uu, huu⟩ : ∃ x, x = ro'[ix].b.lits[gl] := ⟨_, rfl⟩
              have HU32 := Lib.hid (show uu < 4294967296 from by rw [huu]; exact ok_lt32 HF.out.ok (by decide) (HBM2.out.2.2.2 _ (List.getElem_mem _)))
              have HTIN := Lib.hid tin
              have HRAA := Lib.hid hra
              have HIXR := Lib.hid hixr
              have HGLT := Lib.hid hglt
              have HBO := Lib.hid hbo
              have HUU := Lib.hid huu
              have HLL := Lib.hid hll
              rw [hra, ← hll] at b1
              rw [← huu] at t0
              have hgw : IntKind.i64.wrap ((ll : Int) - 1) = (gl : Int) := by rw [show ((ll : Int) - 1) = (gl : Int) by omega]; exact IntWalk.i64_in _ (by omega)
              have g0 : (0 : Int) ≤ (gl : Int) := by omega
              have g1 : (gl : Int) < (ll : Int) := by omega
              clear hxx hix hgl hbo huu hll hra tin hA2
              go_wp2_with fail
              go_quiet (fail)
              go_wp2_with fail
              refine (lit_not uu _ HU32.out).mono ?_
              rintro e w' ⟨rfl, rfl⟩
              go_wp2_with fail
              have KPRE := Lib.hid ((Kept.refl [] v1).drewN nq)
              obtain ⟨gr2, hra2, _, _, _, ⟨roz, hz1⟩, hz2⟩ := put_lit (HC'.out.kept0q nq) HAP.out (fun r hr => (HOWR.out r hr).kept0 ((Kept.refl [] v1).drewN nq)) HIO.out HIXR.out gl (ntL uu) HGLT.out
              have hg3 : gr2 = gr := by
                rw [HRAA.out] at hra2
                injection hra2 with h
                injection h with h
                exact h.symm
              subst hg3
              have hput := And.intro hz1 hz2
              have HOL := Lib.hid (show ∀ x ∈ ro'[ix].b.lits.set gl (ntL uu), N.g.ok x from fun x hx => by
                rcases List.mem_or_eq_of_mem_set hx with hx | rfl
                · exact HBM2.out.2.2.2 x hx
                · exact ntL_okx (by rw [HUU.out]; exact HBM2.out.2.2.2 _ (List.getElem_mem _)))
              obtain ⟨v2, hv2⟩ : ∃ v, v = (v1.drewN nq).setCell ⟨gr2, gl, none⟩ (.int .u32 (ntL uu : Nat)) := ⟨_, rfl⟩
              obtain ⟨N2, hN2⟩ : ∃ x, x = withOut N ix { ro'[ix].b with lits := ro'[ix].b.lits.set gl (ntL uu) } := ⟨_, rfl⟩
              have NB := Lib.hid (show w.heap.size ≤ gr2 ∧ u1.heap.size ≤ gr2 from by
                have h1 := HFR.out gr2 (List.mem_append_right _ (List.mem_append_right _ HTIN.out))
                have h2 := KWQ.out.size
                have h3 := KUQ.out.size
                exact ⟨by omega, by omega⟩)
              have KV := Lib.hid (show Kept [] w v2 from kept_up (K1'.out.trans KPRE.out) (by rw [hv2]; exact hput.2) (fun b hb => by simp at hb; subst hb; exact NB.out.1))
              have UVK := Lib.hid (show Kept [] u1 v2 from kept_up ((KUQ.out.trans HK'.out).trans KPRE.out) (by rw [hv2]; exact hput.2) (fun b hb => by simp at hb; subst hb; exact NB.out.2))
              have NV := Lib.hid (show NetAt v2 n' (n' :: (G' ++ (ft ia' ++ (ft ra' ++ ft (some (⟨go, 0, none⟩ : Addr)))))) (rowsOf ri' ++ rowsOf roz) N2 from ⟨p', G', ia', ic', ra', rc', some ⟨go, 0, none⟩, oc', ri', roz, rfl, rfl, by rw [hv2, hN2]; exact hput.1⟩)
              have FC := fine_out HF.out HC0.out HBO.out (b' := { ro'[ix].b with lits := ro'[ix].b.lits.set gl (ntL uu) }) rfl (List.length_set ..) HOL.out
              have FV := Lib.hid (show NtFine 60 N2 from by rw [hN2]; exact FC.1)
              have CV := Lib.hid (show checkN N2 = 0 from by rw [hN2]; exact FC.2)
              have TNE := Lib.hid (show textL (linesN N2) ≠ textL (linesN N) from by rw [hN2]; exact text_out HF.out (by decide) HC0.out HBO.out rfl (List.length_set ..) HOL.out (fun h => lits_nex HGLT.out HUU.out h))
              clear hput FC
              rw [← hv2]
              clear hv2 hN2
              have HA2 := Lib.hid (HA.out v2 n' _ _ N2 KV.out NV.out FV.out)
              unfold AllX at HA2
              rw [CV.out] at HA2
              have UV := Lib.hid (show Kept [] u1 v2 from UVK.out)
              refine HA2.out.mono ?_
              rintro e v3 ⟨vv, rfl, r3, k3⟩
              obtain ⟨a3, c3', rfl⟩ := ownsRow_anyx r3
              have z1 := own_strx r3 rfl
              have z2 := own_strx (own_keptBx R1'.out (UV.out.trans k3) (by simp)) HTL.out.symm
              have K3 := Lib.hid (KV.out.trans k3)
              clear r3 k3
              generalize textL (linesN N2) = T2 at *
              generalize textL (linesN N) = T1 at *
              generalize T2.length = t2 at *
              have hbq : (T2 == T1) = false := by simpa using TNE.out
              go_wp2_with fail
              refine (HT.out _ K3.out).mono ?_
              rintro e v4 ⟨rfl, k4⟩
              have K4 := Lib.hid (K3.out.trans k4)
              clear k4
              go_wp2_with fail
              go_ret
              exact ⟨rfl, K4.out⟩
            have hD : (how % 4 = 0 ∧ ¬ 0 < nR) ∨ (how % 4 = 1 ∧ ¬ 0 < nR) ∨ (how % 4 = 2 ∧ ¬ 0 < nO) ∨ how % 4 = 3 := by omega
            clear hA0 hA1 hA2 hxx
            rcases hD with ⟨h1, h2⟩ | ⟨h1, h2⟩ | ⟨h1, h2⟩ | h1
            · as_aux_lemma =>
              have hm4 : (how : Int) % 4 = 0 := by omega
              have hv0 : ¬ (0 : Int) < (nR : Int) := by omega
              clear h2
              clear h1
              go_wp2_with fail
              have KPRE := Lib.hid (Kept.refl [] v1)
              have hput := put_name HC'.out ⟨#[111, 116, 104, 101, 114]⟩
              obtain ⟨v2, hv2⟩ : ∃ v, v = v1.setCell ⟨n', 1, none⟩ (.string ⟨#[111, 116, 104, 101, 114]⟩) := ⟨_, rfl⟩
              obtain ⟨N2, hN2⟩ : ∃ x, x = withName N ⟨#[111, 116, 104, 101, 114]⟩ := ⟨_, rfl⟩
              have NB := Lib.hid (show w.heap.size ≤ n' ∧ u1.heap.size ≤ n' from by
                have h1 := HFR.out n' (by simp)
                have h2 := KWQ.out.size
                have h3 := KUQ.out.size
                exact ⟨by omega, by omega⟩)
              have KV := Lib.hid (show Kept [] w v2 from kept_up (K1'.out.trans KPRE.out) (by rw [hv2]; exact hput.2) (fun b hb => by simp at hb; subst hb; exact NB.out.1))
              have UVK := Lib.hid (show Kept [] u1 v2 from kept_up ((KUQ.out.trans HK'.out).trans KPRE.out) (by rw [hv2]; exact hput.2) (fun b hb => by simp at hb; subst hb; exact NB.out.2))
              have NV := Lib.hid (show NetAt v2 n' (n' :: (G' ++ (ft ia' ++ (ft ra' ++ ft oa')))) (rowsOf ri' ++ rowsOf ro') N2 from ⟨p', G', ia', ic', ra', rc', oa', oc', ri', ro', rfl, rfl, by rw [hv2, hN2]; exact hput.1⟩)
              have FC := fine_name HF.out HC0.out (s := ⟨#[111, 116, 104, 101, 114]⟩) (by kernel_rfl)
              have FV := Lib.hid (show NtFine 60 N2 from by rw [hN2]; exact FC.1)
              have CV := Lib.hid (show checkN N2 = 0 from by rw [hN2]; exact FC.2)
              have TNE := Lib.hid (show textL (linesN N2) ≠ textL (linesN N) from by rw [hN2]; exact text_name HF.out HC0.out (by kernel_rfl) (by rw [HNM.out]; decide))
              clear hput FC
              rw [← hv2]
              clear hv2 hN2
              have HA2 := Lib.hid (HA.out v2 n' _ _ N2 KV.out NV.out FV.out)
              unfold AllX at HA2
              rw [CV.out] at HA2
              have UV := Lib.hid (show Kept [] u1 v2 from UVK.out)
              refine HA2.out.mono ?_
              rintro e v3 ⟨vv, rfl, r3, k3⟩
              obtain ⟨a3, c3', rfl⟩ := ownsRow_anyx r3
              have z1 := own_strx r3 rfl
              have z2 := own_strx (own_keptBx R1'.out (UV.out.trans k3) (by simp)) HTL.out.symm
              have K3 := Lib.hid (KV.out.trans k3)
              clear r3 k3
              generalize textL (linesN N2) = T2 at *
              generalize textL (linesN N) = T1 at *
              generalize T2.length = t2 at *
              have hbq : (T2 == T1) = false := by simpa using TNE.out
              go_wp2_with fail
              refine (HT.out _ K3.out).mono ?_
              rintro e v4 ⟨rfl, k4⟩
              have K4 := Lib.hid (K3.out.trans k4)
              clear k4
              go_wp2_with fail
              go_ret
              exact ⟨rfl, K4.out⟩
            · as_aux_lemma =>
              have hm4 : (how : Int) % 4 = 1 := by omega
              have hv0 : ¬ (0 : Int) < (nR : Int) := by omega
              clear h2
              clear h1
              go_wp2_with fail
              have KPRE := Lib.hid (Kept.refl [] v1)
              have hput := put_name HC'.out ⟨#[111, 116, 104, 101, 114]⟩
              obtain ⟨v2, hv2⟩ : ∃ v, v = v1.setCell ⟨n', 1, none⟩ (.string ⟨#[111, 116, 104, 101, 114]⟩) := ⟨_, rfl⟩
              obtain ⟨N2, hN2⟩ : ∃ x, x = withName N ⟨#[111, 116, 104, 101, 114]⟩ := ⟨_, rfl⟩
              have NB := Lib.hid (show w.heap.size ≤ n' ∧ u1.heap.size ≤ n' from by
                have h1 := HFR.out n' (by simp)
                have h2 := KWQ.out.size
                have h3 := KUQ.out.size
                exact ⟨by omega, by omega⟩)
              have KV := Lib.hid (show Kept [] w v2 from kept_up (K1'.out.trans KPRE.out) (by rw [hv2]; exact hput.2) (fun b hb => by simp at hb; subst hb; exact NB.out.1))
              have UVK := Lib.hid (show Kept [] u1 v2 from kept_up ((KUQ.out.trans HK'.out).trans KPRE.out) (by rw [hv2]; exact hput.2) (fun b hb => by simp at hb; subst hb; exact NB.out.2))
              have NV := Lib.hid (show NetAt v2 n' (n' :: (G' ++ (ft ia' ++ (ft ra' ++ ft oa')))) (rowsOf ri' ++ rowsOf ro') N2 from ⟨p', G', ia', ic', ra', rc', oa', oc', ri', ro', rfl, rfl, by rw [hv2, hN2]; exact hput.1⟩)
              have FC := fine_name HF.out HC0.out (s := ⟨#[111, 116, 104, 101, 114]⟩) (by kernel_rfl)
              have FV := Lib.hid (show NtFine 60 N2 from by rw [hN2]; exact FC.1)
              have CV := Lib.hid (show checkN N2 = 0 from by rw [hN2]; exact FC.2)
              have TNE := Lib.hid (show textL (linesN N2) ≠ textL (linesN N) from by rw [hN2]; exact text_name HF.out HC0.out (by kernel_rfl) (by rw [HNM.out]; decide))
              clear hput FC
              rw [← hv2]
              clear hv2 hN2
              have HA2 := Lib.hid (HA.out v2 n' _ _ N2 KV.out NV.out FV.out)
              unfold AllX at HA2
              rw [CV.out] at HA2
              have UV := Lib.hid (show Kept [] u1 v2 from UVK.out)
              refine HA2.out.mono ?_
              rintro e v3 ⟨vv, rfl, r3, k3⟩
              obtain ⟨a3, c3', rfl⟩ := ownsRow_anyx r3
              have z1 := own_strx r3 rfl
              have z2 := own_strx (own_keptBx R1'.out (UV.out.trans k3) (by simp)) HTL.out.symm
              have K3 := Lib.hid (KV.out.trans k3)
              clear r3 k3
              generalize textL (linesN N2) = T2 at *
              generalize textL (linesN N) = T1 at *
              generalize T2.length = t2 at *
              have hbq : (T2 == T1) = false := by simpa using TNE.out
              go_wp2_with fail
              refine (HT.out _ K3.out).mono ?_
              rintro e v4 ⟨rfl, k4⟩
              have K4 := Lib.hid (K3.out.trans k4)
              clear k4
              go_wp2_with fail
              go_ret
              exact ⟨rfl, K4.out⟩
            · as_aux_lemma =>
              have hm4 : (how : Int) % 4 = 2 := by omega
              have hv0 : ¬ (0 : Int) < (nO : Int) := by omega
              clear h2
              clear h1
              go_wp2_with fail
              have KPRE := Lib.hid (Kept.refl [] v1)
              have hput := put_name HC'.out ⟨#[111, 116, 104, 101, 114]⟩
              obtain ⟨v2, hv2⟩ : ∃ v, v = v1.setCell ⟨n', 1, none⟩ (.string ⟨#[111, 116, 104, 101, 114]⟩) := ⟨_, rfl⟩
              obtain ⟨N2, hN2⟩ : ∃ x, x = withName N ⟨#[111, 116, 104, 101, 114]⟩ := ⟨_, rfl⟩
              have NB := Lib.hid (show w.heap.size ≤ n' ∧ u1.heap.size ≤ n' from by
                have h1 := HFR.out n' (by simp)
                have h2 := KWQ.out.size
                have h3 := KUQ.out.size
                exact ⟨by omega, by omega⟩)
              have KV := Lib.hid (show Kept [] w v2 from kept_up (K1'.out.trans KPRE.out) (by rw [hv2]; exact hput.2) (fun b hb => by simp at hb; subst hb; exact NB.out.1))
              have UVK := Lib.hid (show Kept [] u1 v2 from kept_up ((KUQ.out.trans HK'.out).trans KPRE.out) (by rw [hv2]; exact hput.2) (fun b hb => by simp at hb; subst hb; exact NB.out.2))
              have NV := Lib.hid (show NetAt v2 n' (n' :: (G' ++ (ft ia' ++ (ft ra' ++ ft oa')))) (rowsOf ri' ++ rowsOf ro') N2 from ⟨p', G', ia', ic', ra', rc', oa', oc', ri', ro', rfl, rfl, by rw [hv2, hN2]; exact hput.1⟩)
              have FC := fine_name HF.out HC0.out (s := ⟨#[111, 116, 104, 101, 114]⟩) (by kernel_rfl)
              have FV := Lib.hid (show NtFine 60 N2 from by rw [hN2]; exact FC.1)
              have CV := Lib.hid (show checkN N2 = 0 from by rw [hN2]; exact FC.2)
              have TNE := Lib.hid (show textL (linesN N2) ≠ textL (linesN N) from by rw [hN2]; exact text_name HF.out HC0.out (by kernel_rfl) (by rw [HNM.out]; decide))
              clear hput FC
              rw [← hv2]
              clear hv2 hN2
              have HA2 := Lib.hid (HA.out v2 n' _ _ N2 KV.out NV.out FV.out)
              unfold AllX at HA2
              rw [CV.out] at HA2
              have UV := Lib.hid (show Kept [] u1 v2 from UVK.out)
              refine HA2.out.mono ?_
              rintro e v3 ⟨vv, rfl, r3, k3⟩
              obtain ⟨a3, c3', rfl⟩ := ownsRow_anyx r3
              have z1 := own_strx r3 rfl
              have z2 := own_strx (own_keptBx R1'.out (UV.out.trans k3) (by simp)) HTL.out.symm
              have K3 := Lib.hid (KV.out.trans k3)
              clear r3 k3
              generalize textL (linesN N2) = T2 at *
              generalize textL (linesN N) = T1 at *
              generalize T2.length = t2 at *
              have hbq : (T2 == T1) = false := by simpa using TNE.out
              go_wp2_with fail
              refine (HT.out _ K3.out).mono ?_
              rintro e v4 ⟨rfl, k4⟩
              have K4 := Lib.hid (K3.out.trans k4)
              clear k4
              go_wp2_with fail
              go_ret
              exact ⟨rfl, K4.out⟩
            · as_aux_lemma =>
              have hm4 : (how : Int) % 4 = 3 := by omega
              clear h1
              go_wp2_with fail
              have KPRE := Lib.hid (Kept.refl [] v1)
              have hput := put_name HC'.out ⟨#[111, 116, 104, 101, 114]⟩
              obtain ⟨v2, hv2⟩ : ∃ v, v = v1.setCell ⟨n', 1, none⟩ (.string ⟨#[111, 116, 104, 101, 114]⟩) := ⟨_, rfl⟩
              obtain ⟨N2, hN2⟩ : ∃ x, x = withName N ⟨#[111, 116, 104, 101, 114]⟩ := ⟨_, rfl⟩
              have NB := Lib.hid (show w.heap.size ≤ n' ∧ u1.heap.size ≤ n' from by
                have h1 := HFR.out n' (by simp)
                have h2 := KWQ.out.size
                have h3 := KUQ.out.size
                exact ⟨by omega, by omega⟩)
              have KV := Lib.hid (show Kept [] w v2 from kept_up (K1'.out.trans KPRE.out) (by rw [hv2]; exact hput.2) (fun b hb => by simp at hb; subst hb; exact NB.out.1))
              have UVK := Lib.hid (show Kept [] u1 v2 from kept_up ((KUQ.out.trans HK'.out).trans KPRE.out) (by rw [hv2]; exact hput.2) (fun b hb => by simp at hb; subst hb; exact NB.out.2))
              have NV := Lib.hid (show NetAt v2 n' (n' :: (G' ++ (ft ia' ++ (ft ra' ++ ft oa')))) (rowsOf ri' ++ rowsOf ro') N2 from ⟨p', G', ia', ic', ra', rc', oa', oc', ri', ro', rfl, rfl, by rw [hv2, hN2]; exact hput.1⟩)
              have FC := fine_name HF.out HC0.out (s := ⟨#[111, 116, 104, 101, 114]⟩) (by kernel_rfl)
              have FV := Lib.hid (show NtFine 60 N2 from by rw [hN2]; exact FC.1)
              have CV := Lib.hid (show checkN N2 = 0 from by rw [hN2]; exact FC.2)
              have TNE := Lib.hid (show textL (linesN N2) ≠ textL (linesN N) from by rw [hN2]; exact text_name HF.out HC0.out (by kernel_rfl) (by rw [HNM.out]; decide))
              clear hput FC
              rw [← hv2]
              clear hv2 hN2
              have HA2 := Lib.hid (HA.out v2 n' _ _ N2 KV.out NV.out FV.out)
              unfold AllX at HA2
              rw [CV.out] at HA2
              have UV := Lib.hid (show Kept [] u1 v2 from UVK.out)
              refine HA2.out.mono ?_
              rintro e v3 ⟨vv, rfl, r3, k3⟩
              obtain ⟨a3, c3', rfl⟩ := ownsRow_anyx r3
              have z1 := own_strx r3 rfl
              have z2 := own_strx (own_keptBx R1'.out (UV.out.trans k3) (by simp)) HTL.out.symm
              have K3 := Lib.hid (KV.out.trans k3)
              clear r3 k3
              generalize textL (linesN N2) = T2 at *
              generalize textL (linesN N) = T1 at *
              generalize T2.length = t2 at *
              have hbq : (T2 == T1) = false := by simpa using TNE.out
              go_wp2_with fail
              refine (HT.out _ K3.out).mono ?_
              rintro e v4 ⟨rfl, k4⟩
              have K4 := Lib.hid (K3.out.trans k4)
              clear k4
              go_wp2_with fail
              go_ret
              exact ⟨rfl, K4.out⟩
  · have ht0 : tl = 0 := by
      rw [HTL.out]
      unfold linesN
      rw [if_neg (by rw [← HCN.out]; exact h0)]
      rfl
    subst ht0
    have HCK := Lib.hid (fun W (hk : Kept [] u1 W) => check_c (N2.out.kept0 hk) HF.out (by decide))
    rw [← HCN.out] at HCK
    have hc64 : (cn : Int) ≠ 0 := by omega
    clear h0
    go_wp2_with fail
    refine (HCK.out _ (.refl _ _)).mono ?_
    rintro e u2 ⟨rfl, k2⟩
    have K2 := Lib.hid (U1.out.trans k2)
    clear k2
    go_wp2_with fail
    refine (HT.out _ K2.out).mono ?_
    rintro e u3 ⟨rfl, k3⟩
    have K3 := Lib.hid (K2.out.trans k3)
    clear k3
    go_wp2_with fail
    go_ret
    exact ⟨rfl, K3.out⟩
end Go.Proofs.YtnjoklcddodfeaaGreatDoor
