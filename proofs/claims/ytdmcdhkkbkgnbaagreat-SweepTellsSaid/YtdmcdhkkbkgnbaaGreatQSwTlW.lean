/-
  SweepTells: the walk.
-/
import Derived.Test.YtdmcdhkkbkgnbaaGreatQRSwO
import Derived.Test.YtdmcdhkkbkgnbaaGreatQRSwP
import Derived.Test.YtdmcdhkkbkgnbaaGreatP35
namespace Go.Proofs.YtdmcdhkkbkgnbaaGreat
open Go.ChangeShapes Go.WideShapes Go.ChangeAt Go.RowKit
open Go.Maps (Keyed)
open Go.WideMaps
set_option linter.unusedVariables false
set_option linter.unusedSimpArgs false

variable {w w' W w0 : World} {p n k m : Nat} {F R F' R' : List Nat} {N M : Nt}
theorem own_form {w : World} {e : TypeId} {a : Option Addr} {n cap : Nat} {xs : List Value} (h : Own w e a n cap xs) (hn : 0 < n) : ∃ gb, a = some ⟨gb, 0, none⟩ := by
  rcases h.2 with ⟨hv, h0⟩ | ⟨gb, cap', cur, hv, _⟩
  · omega
  · injection hv with hv
    subst hv
    exact ⟨gb, rfl⟩
theorem bools_o (ga m c d : Nat) (b : Option Addr) (l : List Bool) (w : World) (hl : l.length = m) (hm : m ≤ 1000000) (ha : Own w 4 (some ⟨ga, 0, none⟩) m c (bls l)) (hb : Own w 4 b m d (bls l)) :
    Calls Tryz.prog 18 #[.slice (some ⟨ga, 0, none⟩) m c, .slice b m d] w fun e w' => e = .returned (.bool true) ∧ Kept [] w w' := by
  rcases Nat.eq_zero_or_pos m with rfl | hp
  · clear ha hb hl hm
    go_enter Tryz.func18, Tryz.ntmps18
    go_wp2_with fail
    go_loopw [5] (fun v wr => v = .int .i64 0 ∧ Kept [] w wr) (fun _ _ => 0)
    case atStart => exact ⟨rfl, .refl _ _⟩
    case round =>
      obtain ⟨rfl, hk⟩ := hrel
      go_wp2_with fail
      go_ret
      exact ⟨rfl, hk⟩
  · obtain ⟨gb, rfl⟩ := own_form hb hp
    exact bools_c ga gb m c d l w hl hm ha hb
set_option maxHeartbeats 64000000 in
set_option maxRecDepth 100000 in
theorem sweep_tells (o1 o2 : Bool) (sa : Option Addr) (sl : List NStp) (sc len : Nat) (w : World) (hlen : sl.length = len) (hss : SlNStepsC w sa sl) (hso : ∀ s ∈ sl, s.ok) :
    Calls Tryz.prog 3 #[.agg #[.bool o1, .bool o2], .slice sa len sc] w (BoolIs true w) := by
  have HB := Lib.hid (fun (W : World) (hk : Kept [] w W) => built30 o1 o2 sa sl sc len W hlen (fun k hk' => by
    exact (hss.kept0 hk) k hk') hso)
  have HT := Lib.hid (fun (W : World) => tells30 W)
  clear hlen hss hso
  go_enter Tryz.func3, Tryz.ntmps3; (try simp only [List.append])
  go_wp2_with fail
  refine (HB.out _ ((Kept.refl [] w).alloc _)).mono ?_
  intro e w1 hx
  obtain ⟨n, NF, NR, q, F2, R2, he, hx⟩ := hx
  subst he
  have hnet := hx.net
  have href := hx.ref
  have K1 := Lib.hid (((Kept.refl [] w).alloc (.cells #[.bool o1, .bool o2] 23)).trans hx.kept)
  have hfine := builtN_fine false o1 o2 sl 60
  generalize builtN false o1 o2 sl 60 = N at *
  have HFI := Lib.hid hfine
  have HNE := Lib.hid (fun (V : World) (hV : Kept [] w1 V) => Needed_c (hnet.kept0 hV) hfine (by omega))
  have HSK := Lib.hid (fun (V : World) (hV : Kept [] w1 V) => Stuck_c (hnet.kept0 hV) hfine (by omega))
  have HON := Lib.hid (fun (V : World) (hV : Kept [] w1 V) => Once_c (hnet.kept0 hV) hfine (by omega))
  have HAL := Lib.hid (fun (V : World) (hV : Kept [] w1 V) => All_c (hnet.kept0 hV) hfine (by omega))
  have HCK := Lib.hid (fun (V : World) (hV : Kept [] w1 V) => check06g (href.kept0 hV) hfine (by omega))
  have HLK := Lib.hid (fun (V : World) (hV : Kept [] w1 V) => alike_c (hnet.kept0 hV) (href.kept0 hV) hfine (by omega))
  by_cases h0 : checkN N = 0
  case neg =>
    have HRO := Lib.hid (fun (V : World) (hV : Kept [] w1 V) => ronce_bad (href.kept0 hV) hfine (by omega) h0)
    have HRA := Lib.hid (fun (V : World) (hV : Kept [] w1 V) => rall_bad (href.kept0 hV) hfine (by omega) h0)
    unfold RNone at HRO HRA
    simp only [if_neg h0] at HNE HSK HON HAL
    unfold BoolsNone at HNE HSK
    unfold NetNone at HON HAL
    obtain ⟨cn, hcn⟩ : ∃ c, c = checkN N := ⟨_, rfl⟩
    rw [← hcn] at HNE HSK HON HAL HCK HRO HRA h0
    have h1 : ¬ (cn : Int) = 0 := by omega
    have h2 : ((cn : Int) == (0 : Int)) = false := by simp; omega
    clear hx hnet href hfine HB hcn
    go_wp2_with fail
    refine (HNE.out _ (Kept.refl [] w1)).mono ?_
    rintro e w2 ⟨rfl, k2⟩
    have K2 := Lib.hid k2
    clear k2
    go_wp2_with fail
    refine (HSK.out _ K2.out).mono ?_
    rintro e w3 ⟨rfl, k3⟩
    have K3 := Lib.hid (K2.out.trans k3)
    clear k3
    go_wp2_with fail
    refine (HON.out _ K3.out).mono ?_
    rintro e w4 ⟨rfl, k4⟩
    have K4 := Lib.hid (K3.out.trans k4)
    clear k4
    go_wp2_with fail
    refine (HRO.out _ K4.out).mono ?_
    rintro e w5 ⟨rfl, k5⟩
    have K5 := Lib.hid (K4.out.trans k5)
    clear k5
    go_wp2_with fail
    refine (HAL.out _ K5.out).mono ?_
    rintro e w6 ⟨rfl, k6⟩
    have K6 := Lib.hid (K5.out.trans k6)
    clear k6
    go_wp2_with fail
    refine (HRA.out _ K6.out).mono ?_
    rintro e w7 ⟨rfl, k7⟩
    have K7 := Lib.hid (K6.out.trans k7)
    clear k7
    go_wp2_with fail
    refine (HCK.out _ K7.out).mono ?_
    rintro e w8 ⟨rfl, k8⟩
    have K8 := Lib.hid (K7.out.trans k8)
    clear k8
    go_wp2_with fail
    refine (HLK.out _ K8.out).mono ?_
    rintro e w9 ⟨rfl, k9⟩
    have K9 := Lib.hid (K8.out.trans k9)
    clear k9
    go_wp2_with fail
    refine (HT.out _).mono ?_
    rintro e w10 ⟨rfl, k10⟩
    have K10 := Lib.hid ((K1.out.trans K9.out).trans k10)
    clear k10
    go_wp2_with fail
    go_ret
    exact ⟨rfl, K10.out⟩
  case pos =>
    have HRO := Lib.hid (fun (V : World) (hV : Kept [] w1 V) => ronce_c (href.kept0 hV) hfine (by omega) h0)
    have HRA := Lib.hid (fun (V : World) (hV : Kept [] w1 V) => rall_c (href.kept0 hV) hfine (by omega) h0)
    have HRN := Lib.hid (fun (V : World) (hV : Kept [] w1 V) => rneeded_c (href.kept0 hV) hfine (by omega))
    obtain ⟨nR, hnR⟩ : ∃ m, m = N.regs.length := ⟨_, rfl⟩
    have HNR := Lib.hid hnR
    have HNL := Lib.hid (show (neededN N).length = nR from by rw [needed_length hfine, hnR])
    have HSL := Lib.hid (show (N.regs.map stuckR).length = nR from by rw [List.length_map, hnR])
    unfold ROnceNew at HRO
    unfold RAllNew at HRA
    unfold RBools at HRN
    simp only [if_pos h0] at HNE HSK HON HAL
    unfold BoolsNew at HNE HSK
    unfold OnceNew at HON
    unfold AllNew at HAL
    rw [h0] at HCK
    rw [HNL.out] at HNE HRN
    rw [HSL.out] at HSK
    have HFX := Lib.hid (once_fine hfine).1
    have HFP := Lib.hid (swept_ind hfine (fun _ => True) trivial (fun _ _ _ _ => trivial)).2.1
    have hnr : nR ≤ 60 := by rw [hnR]; have := hfine.ok.rk; omega
    obtain ⟨p, ia, ic, ra, rc, oa, oc, ri, ro, hp⟩ := rnet_parts href
    have HP := Lib.hid hp
    have HC3 := Lib.hid (fun (V : World) (hV : Kept [] w1 V) => show V.cell? ⟨q, 3, none⟩ = some (.slice ra nR rc) from by
      have h3 := hp.c3
      rw [← hnR] at h3
      exact hV.cell h3 (by simp))
    clear hx hnet href hfine HB hp hnR
    go_wp2_with fail
    refine (HNE.out _ (Kept.refl [] w1)).mono ?_
    rintro e w2 ⟨ga, rfl, oa2, k2, ge2⟩
    have K2 := Lib.hid k2
    have OA := Lib.hid oa2
    clear k2 oa2 ge2
    go_wp2_with fail
    refine (HSK.out _ K2.out).mono ?_
    rintro e w3 ⟨gs, rfl, os3, k3, ge3⟩
    have K3 := Lib.hid (K2.out.trans k3)
    have OA3 := Lib.hid (OA.out.kept0 k3)
    have OS3 := Lib.hid os3
    clear k3 os3 ge3
    go_wp2_with fail
    refine (HON.out _ K3.out).mono ?_
    rintro e w4 ⟨x, FX, RX, rfl, hx4, k4, hf4⟩
    have K4 := Lib.hid (K3.out.trans k4)
    have K34 := Lib.hid k4
    have X4 := Lib.hid hx4
    clear k4 hx4 hf4
    go_wp2_with fail
    refine (HRO.out _ K4.out).mono ?_
    rintro e w5 ⟨y, FY, RY, rfl, hy5, k5, hf5⟩
    have K5 := Lib.hid (K4.out.trans k5)
    have K45 := Lib.hid k5
    have Y5 := Lib.hid hy5
    clear k5 hy5 hf5
    go_wp2_with fail
    refine (HAL.out _ K5.out).mono ?_
    rintro e w6 ⟨x2, FX2, RX2, rfl, hx6, k6, hf6⟩
    have K6 := Lib.hid (K5.out.trans k6)
    have K56 := Lib.hid k6
    have X6 := Lib.hid hx6
    clear k6 hx6 hf6
    go_wp2_with fail
    refine (HRA.out _ K6.out).mono ?_
    rintro e w7 ⟨y2, FY2, RY2, rfl, hy7, k7, hf7⟩
    have K7 := Lib.hid (K6.out.trans k7)
    have K67 := Lib.hid k7
    have Y7 := Lib.hid hy7
    clear k7 hy7 hf7
    go_wp2_with fail
    refine (HCK.out _ K7.out).mono ?_
    rintro e w8 ⟨rfl, k8⟩
    have K8 := Lib.hid (K7.out.trans k8)
    have K78 := Lib.hid k8
    clear k8
    go_wp2_with fail
    refine (HLK.out _ K8.out).mono ?_
    rintro e w9 ⟨rfl, k9⟩
    have K9 := Lib.hid (K8.out.trans k9)
    have K79 := Lib.hid (K78.out.trans k9)
    have OA9 := Lib.hid (OA3.out.kept0 (K34.out.trans (K45.out.trans (K56.out.trans (K67.out.trans K79.out)))))
    have OS9 := Lib.hid (OS3.out.kept0 (K34.out.trans (K45.out.trans (K56.out.trans (K67.out.trans K79.out)))))
    have HXY := Lib.hid (fun (V : World) (hV : Kept [] w9 V) => alike_c (X4.out.kept0 (K45.out.trans (K56.out.trans (K67.out.trans (K79.out.trans hV))))) (Y5.out.kept0 (K56.out.trans (K67.out.trans (K79.out.trans hV)))) HFX.out (by omega))
    have HPQ := Lib.hid (fun (V : World) (hV : Kept [] w9 V) => alike_c (X6.out.kept0 (K67.out.trans (K79.out.trans hV))) (Y7.out.kept0 (K79.out.trans hV)) HFP.out (by omega))
    have c3 := HC3.out _ K9.out
    clear k9 HNE HSK HON HRO HAL HRA HCK HLK OA OA3 OS3
    go_wp2_with fail
    clear c3
    go_loopw [20, 21] (fun v iv wr => ∃ (i : Nat) (a : Option Addr) (c : Nat), i ≤ nR ∧ iv = .int .i64 i ∧ v = .slice a i c ∧ Own wr 4 a i c (bls ((N.regs.take i).map stuckR)) ∧ Kept [] w9 wr ∧ ∀ x ∈ ft a, w9.heap.size ≤ x) (fun _ iv _ => nR - (intOf iv).toNat)
    case atStart => exact ⟨0, none, 0, Nat.zero_le _, rfl, rfl, Own.nil _ _, .refl _ _, by simp [ft]⟩
    case round =>
      obtain ⟨i, a, c, hi, rfl, rfl, ho, hkr, hfa⟩ := hrel
      obtain ⟨wa, rfl⟩ : ∃ v : World, v = wr := ⟨_, rfl⟩
      have HO := Lib.hid ho
      have KR := Lib.hid hkr
      have FA := Lib.hid hfa
      have c3 := HC3.out _ (K9.out.trans hkr)
      clear ho hkr hfa
      by_cases hlt : i < nR
      · have hil : i < N.regs.length := by rw [← HNR.out]; exact hlt
        obtain ⟨qb, rfl, e0, e1, e2, e3⟩ := (HP.out.rb.kept0 (K9.out.trans KR.out)) i hil
        have HT2 := Lib.hid (show (N.regs.take (i + 1)).map stuckR = (N.regs.take i).map stuckR ++ [stuckR N.regs[i]] from by rw [List.take_succ_eq_append_getElem hil, List.map_append]; rfl)
        generalize N.regs[i] = r at *
        obtain ⟨x5, d, en, init⟩ := r
        simp only at e0 e1 e2 e3
        have HSC := Lib.hid (fun V => rstuck_c ⟨x5, d, en, init⟩ V)
        unfold rgV at HSC
        simp only at HSC
        obtain ⟨sb, hsb⟩ : ∃ b, b = stuckR ⟨x5, d, en, init⟩ := ⟨_, rfl⟩
        rw [← hsb] at HSC HT2
        have i0 : (0 : Int) ≤ (i : Int) := by omega
        have i1 : (i : Int) < (nR : Int) := by omega
        clear hsb hil
        go_wp2_with fail
        refine (HSC.out _).mono ?_
        rintro e w10 ⟨rfl, k10⟩
        have K10 := Lib.hid (KR.out.trans k10)
        have ho10 := HO.out.kept0 k10
        clear k10 e0 e1 e2 e3 c3
        go_wp2_with (at_builtin; refine wpList_push rfl rfl Tryz.underlying29 bool_info rfl rfl rfl ho10 rfl (by unfold maxLen; omega) (by omega) ?_; intro a11 c11 w11 hown11 hst11)
        go_roundw
        case rel => exact ⟨i + 1, a11, c11, by omega, by go_num, rfl, by rw [HT2.out, show bls ((N.regs.take i).map stuckR ++ [sb]) = bls ((N.regs.take i).map stuckR) ++ [.bool sb] from by simp [bls]]; exact hown11, kept_up K10.out hst11.kept FA.out, fun b hb => (hst11.fresh b hb).elim (FA.out b) (fun h => Nat.le_trans K10.out.size h)⟩
        case measure => simp [intOf]; omega
      · obtain rfl : nR = i := by omega
        have HE := Lib.hid (show N.regs.take nR = N.regs from List.take_of_length_le (by rw [HNR.out]; exact Nat.le_refl _))
        have HOB := Lib.hid (show Own wa 4 a nR c (bls (N.regs.map stuckR)) from by have h := HO.out; rw [HE.out] at h; exact h)
        have HNN := Lib.hid (HRN.out _ (K9.out.trans KR.out))
        clear HRN
        go_wp2_with fail
        refine HNN.out.mono ?_
        rintro e w10 ⟨gb, rfl, ob10, k10, ge10⟩
        have K10 := Lib.hid (KR.out.trans k10)
        have B1 := Lib.hid (bools_o ga nR nR nR (some ⟨gb, 0, none⟩) (neededN N) w10 HNL.out (by omega) (OA9.out.kept0 (KR.out.trans k10)) ob10)
        have HOB10 := Lib.hid (HOB.out.kept0 k10)
        clear ob10 k10 ge10 HNN c3
        go_wp2_with fail
        refine B1.out.mono ?_
        rintro e w11 ⟨rfl, k11⟩
        have K11 := Lib.hid (K10.out.trans k11)
        have B2 := Lib.hid (bools_o gs nR nR c a (N.regs.map stuckR) w11 HSL.out (by omega) (OS9.out.kept0 (K10.out.trans k11)) (HOB10.out.kept0 k11))
        clear k11
        go_wp2_with fail
        refine B2.out.mono ?_
        rintro e w12 ⟨rfl, k12⟩
        have K12 := Lib.hid (K11.out.trans k12)
        clear k12
        go_wp2_with fail
        refine (HXY.out _ K12.out).mono ?_
        rintro e w13 ⟨rfl, k13⟩
        have K13 := Lib.hid (K12.out.trans k13)
        clear k13
        go_wp2_with fail
        refine (HPQ.out _ K13.out).mono ?_
        rintro e w14 ⟨rfl, k14⟩
        have K14 := Lib.hid (K13.out.trans k14)
        clear k14
        go_wp2_with fail
        refine (HT.out _).mono ?_
        rintro e w15 ⟨rfl, k15⟩
        have K15 := Lib.hid ((K1.out.trans K9.out).trans (K14.out.trans k15))
        clear k15
        go_wp2_with fail
        go_ret
        exact ⟨rfl, K15.out⟩
end Go.Proofs.YtdmcdhkkbkgnbaaGreat
