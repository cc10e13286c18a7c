/-
  The document's All, walked.
-/
import Derived.Test.YtdmcdhkkbkgnbaaGreatQRSwK
import Derived.Test.YtdmcdhkkbkgnbaaGreatP31
namespace Go.Proofs.YtdmcdhkkbkgnbaaGreat
open Go.ChangeShapes Go.WideShapes Go.ChangeAt Go.RowKit
open Go.Maps (Keyed)
open Go.WideMaps
set_option linter.unusedVariables false
set_option linter.unusedSimpArgs false

variable {w w' W w0 : World} {p n n' k : Nat} {F R S F' R' : List Nat} {g : Gr} {N M M' : Nt}
/-- what is leant on, step by step -/
def leanTo (N : Nt) (j : Nat) : List Nat := outsN N ++ (N.regs.take j).flatMap fun r => [r.d, r.en]
theorem leanTo_zero (N : Nt) : leanTo N 0 = outsN N := by simp [leanTo]
theorem leanTo_all (N : Nt) : leanTo N N.regs.length = leantN N := by simp [leanTo, leantN]
theorem leanTo_succ {j : Nat} (h : j < N.regs.length) : leanTo N (j + 1) = leanTo N j ++ [N.regs[j].d, N.regs[j].en] := by
  unfold leanTo
  rw [List.take_succ_eq_append_getElem h, List.flatMap_append, List.append_assoc]
  rfl
theorem leanTo_len (N : Nt) (j : Nat) : (leanTo N j).length ≤ (outsN N).length + 2 * N.regs.length := by
  unfold leanTo
  rw [List.length_append, goingTwo, List.length_take]
  omega
/-- what is told of the first registers -/
def doneTo (M : Nt) (j : Nat) : Bool := decide (reachedN M = gatesX M) && (List.range j).all fun i => (neededN M).getD i false && !stuckR (M.regs.getD i ⟨0, 0, 0, false⟩)
theorem doneTo_succ (M : Nt) (j : Nat) : doneTo M (j + 1) = (doneTo M j && ((neededN M).getD j false && !stuckR (M.regs.getD j ⟨0, 0, 0, false⟩))) := by
  unfold doneTo
  rw [List.range_succ, List.all_append, Bool.and_assoc]
  simp
theorem doneTo_all (hf : NtFine k M) : doneTo M M.regs.length = doneN M := by
  have hl := needed_length hf
  unfold doneTo doneN
  rw [Bool.eq_iff_iff]
  simp only [Bool.and_eq_true, decide_eq_true_eq, List.all_eq_true, List.mem_range, Bool.not_eq_true', List.any_eq_false]
  constructor
  · rintro ⟨h1, h2⟩
    refine ⟨⟨?_, fun r hr => ?_⟩, h1⟩
    · cases hc : (neededN M).contains false with
      | false => rfl
      | true =>
        have hm : false ∈ neededN M := by simpa using hc
        obtain ⟨i, hi, he⟩ := List.getElem_of_mem hm
        have := (h2 i (by rw [← hl]; exact hi)).1
        rw [List.getD_eq_getElem?_getD, List.getElem?_eq_getElem hi, he] at this
        cases this
    · obtain ⟨i, hi, rfl⟩ := List.getElem_of_mem hr
      have := (h2 i hi).2
      rw [List.getD_eq_getElem?_getD, List.getElem?_eq_getElem hi] at this
      simpa using this
  · rintro ⟨⟨h1, h2⟩, h3⟩
    refine ⟨h3, fun i hi => ⟨?_, ?_⟩⟩
    · have hi' : i < (neededN M).length := by rw [hl]; exact hi
      rw [List.getD_eq_getElem?_getD, List.getElem?_eq_getElem hi']
      cases hb : (neededN M)[i] with
      | true => rfl
      | false =>
        have hm : false ∈ neededN M := by rw [← hb]; exact List.getElem_mem hi'
        have : (neededN M).contains false = true := by simpa using hm
        rw [this] at h1
        cases h1
    · rw [List.getD_eq_getElem?_getD, List.getElem?_eq_getElem hi]
      have := h2 _ (List.getElem_mem hi)
      simpa using this
def RAllNew (N : Nt) (w : World) (e : Ending) (w' : World) : Prop := ∃ n' F' R', e = .returned (.tuple #[.pointer (some ⟨n', 0, none⟩), .int .i64 0]) ∧ RNetAt w' n' F' R' (sweptN N) ∧ Kept [] w w' ∧ ∀ b ∈ F' ++ R', w.heap.size ≤ b
theorem reached_len (N : Nt) : (reachL N.g.nodes (leantN N)).length = (supportL N.g.nodes (leantN N)).length + reachedN N := by
  unfold reachedN
  rw [reach_split]
  congr 1
  unfold reachL
  rw [pick_filter]
set_option maxHeartbeats 64000000 in
set_option maxRecDepth 100000 in
theorem rall_c (h : RNetAt w n F R N) (hf : NtFine k N) (hk : k ≤ 400) (hz : checkN N = 0) :
    Calls Tryz.prog 13 #[.pointer (some ⟨n, 0, none⟩)] w (RAllNew N w) := by
  have HH := Lib.hid h
  have HF := Lib.hid hf
  have HZ := Lib.hid hz
  clear h hf hz
  go_enter Tryz.func13, Tryz.ntmps13; (try simp only [List.append])
  go_wp2_with fail
  go_loopg [0] (sizeN (onceN N) + 1) (fun gf v wr => ∃ (n1 : Nat) (F1 R1 : List Nat) (N1 : Nt), v = .pointer (some ⟨n1, 0, none⟩) ∧ RNetAt wr n1 F1 R1 N1 ∧ NtFine k N1 ∧ checkN N1 = 0 ∧ sweptN N1 = sweptN N ∧ sizeN (onceN N1) < gf ∧ Kept [] w wr)
  case atStart => exact ⟨n, F, R, N, rfl, HH.out, HF.out, HZ.out, rfl, Nat.lt_succ_self _, .refl _ _⟩
  case round =>
    obtain ⟨n1, F1, R1, N1, rfl, hn1, hf1, hz1, hs1, hlt1, hk1⟩ := hrel
    obtain ⟨g', rfl⟩ : ∃ g', gk = g' + 1 := ⟨gk - 1, by omega⟩
    have HF1 := Lib.hid hf1
    have HS1 := Lib.hid hs1
    have HL1 := Lib.hid hlt1
    have KR := Lib.hid hk1
    have HON := Lib.hid (ronce_c hn1 hf1 hk hz1)
    have HFN := Lib.hid (once_fine hf1)
    have HST := Lib.hid (swept_step hf1)
    have HSZ := Lib.hid (fun hd => size_lt (once_fine hf1).1 hd)
    clear hn1 hf1 hz1 hs1 hlt1 hk1
    go_wp2_with fail
    refine HON.out.mono ?_
    rintro e w1 ⟨n2, F2, R2, rfl, hn2, k2, hf2⟩
    generalize onceN N1 = M at *
    have K2 := Lib.hid (KR.out.trans k2)
    have N2 := Lib.hid hn2
    have HFR := Lib.hid (show ∀ b ∈ F2 ++ R2, w.heap.size ≤ b from fun b hb => Nat.le_trans KR.out.size (hf2 b hb))
    obtain ⟨p, ia, ic, ra, rc, oa, oc, ri, ro, hp⟩ := rnet_parts hn2
    have HP := Lib.hid hp
    obtain ⟨G, hgr⟩ := hp.gr
    have HGR := Lib.hid hgr
    have HND := Lib.hid (fun (V : World) (hV : Kept [] w1 V) => rneeded_c (hn2.kept0 hV) HFN.out.1 (by omega))
    unfold RBools at HND
    obtain ⟨nR, hnR⟩ : ∃ m, m = M.regs.length := ⟨_, rfl⟩
    obtain ⟨nO, hnO⟩ : ∃ m, m = M.outb.length := ⟨_, rfl⟩
    have HNR := Lib.hid hnR
    have HNO := Lib.hid hnO
    have hnr : nR ≤ 400 := by rw [hnR]; have := HFN.out.1.ok.rk; omega
    have hno : nO ≤ 400 := by rw [hnO]; have := HFN.out.1.ok.ok; omega
    have HGL := Lib.hid (show M.g.nodes.length ≤ 25601 from by have := HFN.out.1.ok.len; omega)
    have HRO := Lib.hid (show ro.length = nO from by rw [hnO, ← hp.om]; simp)
    have HNL := Lib.hid (show (neededN M).length = nR from by rw [needed_length HFN.out.1, hnR])
    rw [HNL.out] at HND
    have HC := Lib.hid (fun (V : World) (hV : Kept [] w1 V) => show V.cell? ⟨n2, 0, none⟩ = some (.pointer (some ⟨p, 0, none⟩)) ∧ V.cell? ⟨n2, 3, none⟩ = some (.slice ra nR rc) ∧ V.cell? ⟨n2, 4, none⟩ = some (.slice oa nO oc) from by
      have h3 := hp.c3
      have h4 := hp.c4
      rw [← hnR] at h3
      rw [← hnO] at h4
      exact ⟨hV.cell hp.c0 (by simp), hV.cell h3 (by simp), hV.cell h4 (by simp)⟩)
    obtain ⟨g0, g3, g4⟩ := HC.out _ (Kept.refl [] w1)
    clear g0 g3 hn2 k2 hf2 hp hgr hnR hnO HON
    go_wp2_with fail
    clear g4
    go_loopw [7, 8] (fun v i wr => ∃ (m : Nat) (a : Option Addr) (c : Nat), m ≤ nO ∧ i = .int .i64 m ∧ v = .slice a (outsTo M m).length c ∧ Own wr 46 a (outsTo M m).length c (nats .u32 (outsTo M m)) ∧ Stepped w1 wr [] (ft a)) (fun _ i _ => nO - (intOf i).toNat)
    case atStart => exact ⟨0, none, 0, Nat.zero_le _, rfl, rfl, Own.nil _ _, .refl _ _⟩
    case round =>
      obtain ⟨m, a, c, hm, rfl, rfl, ho, hst⟩ := hrel
      obtain ⟨wb, rfl⟩ : ∃ v : World, v = wr := ⟨_, rfl⟩
      have HO := Lib.hid ho
      have ST := Lib.hid hst
      clear ho hst
      by_cases hlt : m < nO
      · have hml : m < ro.length := by rw [HRO.out]; exact hlt
        obtain ⟨ob, rfl, x0, x1⟩ := (HP.out.ob.kept0 ST.out.kept) m hml
        have hrow := (HP.out.or _ (List.getElem_mem hml)).kept0 ST.out.kept
        have hbo : M.outb[m]? = some ro[m].b := by rw [← HP.out.om, List.getElem?_map, List.getElem?_eq_getElem hml]; rfl
        have hT := outsTo_succ hbo
        have hol := HFN.out.1.ok.ol _ (List.mem_of_getElem? hbo)
        have hl64 := hol.2.1
        have hl1 := hol.1
        have hlen := outsTo_len HFN.out.1 m
        clear hbo hol
        generalize ro[m] = r at *
        obtain ⟨⟨nm2, lits⟩, ra2, rc2⟩ := r
        simp only at x0 x1 hrow hT hl64 hl1
        obtain ⟨ad, had⟩ : ∃ ad, ra2 = some ad := by
          obtain ⟨ad, h, _⟩ := hrow 0 hl1
          exact ⟨ad, h⟩
        subst had
        obtain ⟨ln, hln⟩ : ∃ ln, ln = lits.length := ⟨_, rfl⟩
        obtain ⟨ol, hol⟩ : ∃ ol, ol = (outsTo M m).length := ⟨_, rfl⟩
        have HLN2 := Lib.hid hln
        have HOL := Lib.hid hol
        rw [← hln] at x1 hl64
        rw [← hol] at hlen
        have ho2 := HO.out
        rw [← hol] at ho2
        have HCL := Lib.hid (news_of hrow)
        have HT := Lib.hid hT
        have m0 : (0 : Int) ≤ (m : Int) := by omega
        have m1 : (m : Int) < (nO : Int) := by omega
        rw [← hol]
        clear hrow hT hln hol hl1 x0
        go_wp2_with (at_builtin; refine wpList_cat (news := nats .u32 lits) rfl rfl Tryz.underlying87 u32_info rfl (by omega) rfl rfl ho2 (by rw [nats_length, HLN2.out, Nat.mul_one]) HCL.out (by intro u hu; simp [nats] at hu; obtain ⟨_, _, rfl⟩ := hu; rfl) (by unfold maxLen; omega) (by omega) ?_; intro a5 c5 w5 hown5 hst5)
        have hlen2 : (outsTo M (m + 1)).length = ol + ln := by rw [HT.out, List.length_append, ← HOL.out, ← HLN2.out]
        have HL2 := Lib.hid hlen2
        clear hlen2 ho2
        go_roundw
        case rel => exact ⟨m + 1, a5, c5, by omega, by go_num, by rw [HL2.out], by rw [HL2.out, HT.out, show nats .u32 (outsTo M m ++ lits) = nats .u32 (outsTo M m) ++ nats .u32 lits from by simp [nats]]; exact hown5, ST.out.trans hst5⟩
        case measure => simp [intOf]; omega
      · obtain rfl : nO = m := by omega
        have HE := Lib.hid (show outsTo M nO = leanTo M 0 from by rw [HNO.out, outsTo_all, leanTo_zero])
        have HWL := Lib.hid (show (leanTo M 0).length = (outsTo M nO).length from by rw [HE.out])
        have HO2 := Lib.hid (show Own wb 46 a (outsTo M nO).length c (nats .u32 (leanTo M 0)) from by rw [← HE.out]; exact HO.out)
        obtain ⟨tl0, htl0⟩ : ∃ x, x = (outsTo M nO).length := ⟨_, rfl⟩
        rw [← htl0] at HWL HO2 ⊢
        have HOB := Lib.hid (show (outsN M).length ≤ 25600 from by have h1 := outsTo_len HFN.out.1 nO; rw [HNO.out, outsTo_all] at h1; have h2 := HFN.out.1.ok.ok; omega)
        have KB := Lib.hid ST.out.kept
        have HAN := Lib.hid (show ∀ x ∈ ft a, w1.heap.size ≤ x from fun x hx => (ST.out.fresh x hx).elim (by simp) id)
        clear htl0 HO HE ST
        obtain ⟨g0, g3, g4⟩ := HC.out _ KB.out
        clear g0 g4
        go_wp2_with fail
        clear g3
        go_loopw [7, 9] (fun v iv wr => ∃ (j tl : Nat) (a : Option Addr) (c : Nat), j ≤ nR ∧ iv = .int .i64 j ∧ v = .slice a tl c ∧ Hid ((leanTo M j).length = tl) ∧ Own wr 46 a tl c (nats .u32 (leanTo M j)) ∧ Kept [] w1 wr ∧ ∀ x ∈ ft a, w1.heap.size ≤ x) (fun _ iv _ => nR - (intOf iv).toNat)
        case atStart => exact ⟨0, tl0, a, c, Nat.zero_le _, rfl, rfl, Lib.hid HWL.out, HO2.out, KB.out, HAN.out⟩
        case round =>
          obtain ⟨j, tl, a', c', hj, rfl, rfl, htl, hot, hkr, han⟩ := hrel
          obtain ⟨wc, rfl⟩ : ∃ v : World, v = wr := ⟨_, rfl⟩
          have TL := Lib.hid htl.out
          have OT := Lib.hid hot
          have KC := Lib.hid hkr
          have AN := Lib.hid han
          clear htl hot hkr han
          have htlb : tl ≤ 30000 := by have h1 := leanTo_len M j; rw [TL.out] at h1; have h2 := HOB.out; have h3 := HNR.out; omega
          obtain ⟨g0, g3, g4⟩ := HC.out _ KC.out
          clear g4
          by_cases hlt : j < nR
          · have hjl : j < M.regs.length := by rw [← HNR.out]; exact hlt
            obtain ⟨qb, rfl, e0, e1, e2, e3⟩ := (HP.out.rb.kept0 KC.out) j hjl
            have HLS := Lib.hid (leanTo_succ hjl)
            generalize M.regs[j] = r at *
            obtain ⟨q, d, en, init⟩ := r
            simp only at e0 e1 e2 e3 HLS
            have j0 : (0 : Int) ≤ (j : Int) := by omega
            have j1 : (j : Int) < (nR : Int) := by omega
            have HX := Lib.hid (show Kept [] w1 wc ∧ wc.cell? ⟨n2, 3, none⟩ = some (.slice (some ⟨qb, 0, none⟩) nR rc) ∧ wc.cell? ⟨qb, j * 4 + 1, none⟩ = some (.int .u32 (d : Int)) ∧ wc.cell? ⟨qb, j * 4 + 2, none⟩ = some (.int .u32 (en : Int)) from ⟨KC.out, g3, e1, e2⟩)
            have HN1 := Lib.hid (show n2 ∉ ft a' from fun hx => by have h1 := AN.out n2 hx; have h2 := World.block_lt_of_cell? _ _ (HC.out _ (Kept.refl [] w1)).1; exact absurd h1 (Nat.not_le.2 h2))
            have HN2 := Lib.hid (show qb ∉ ft a' from fun hx => by
              have h1 := AN.out qb hx
              obtain ⟨b9, h9, z1, _⟩ := HP.out.rb j hjl
              injection h9 with h9
              injection h9 with h9
              subst h9
              exact absurd h1 (Nat.not_le.2 (World.block_lt_of_cell? _ _ z1)))
            clear e0 e3 g0
            go_upto_region 13 with (fail)
            go_region_held3 (fun V => V.cell? ⟨n2, 3, none⟩ = some (.slice (some ⟨qb, 0, none⟩) nR rc) ∧ V.cell? ⟨qb, j * 4 + 1, none⟩ = some (.int .u32 (d : Int)) ∧ V.cell? ⟨qb, j * 4 + 2, none⟩ = some (.int .u32 (en : Int)))
              (first | exact keep_3f (w := wc) (F := ft a') (by (repeat (first | with_reducible exact Kept.refl _ _ | with_reducible apply Kept.drew | with_reducible apply Kept.alloc | refine Kept.trans ?_ hst4.kept))) g3 e1 e2 HN1.out HN2.out HN2.out | go_keep)
              (first | (refine step_cat (news := nats .u32 [d, en]) (by rfl) (by rfl) Tryz.underlying87 u32_info rfl (by omega) (by rfl) (by rfl) (OT.out.kept0 (by (repeat (first | with_reducible exact Kept.refl _ _ | with_reducible apply Kept.drew | with_reducible apply Kept.alloc)))) (by rw [nats_length]; rfl) (news_of (sln_new _ .u32 [d, en] 46)) (nats_one _ _) (by unfold maxLen; omega) (by omega) ?_; intro a4 c4 w4 hown4 hst4))
            have hs4 := st_drew_alloc hst4
            have HS4 := Lib.hid hs4
            have HO4 := Lib.hid hown4
            clear hst4 hown4 hs4 e1 e2 g3
            go_wp2_with fail
            go_roundw
            case rel => exact ⟨j + 1, tl + 2, a4, c4, by omega, by go_num, rfl, Lib.hid (by rw [HLS.out, List.length_append, TL.out]; rfl), by rw [HLS.out, show nats .u32 (leanTo M j ++ [d, en]) = nats .u32 (leanTo M j) ++ nats .u32 [d, en] from by simp [nats]]; exact HO4.out, kept_up KC.out HS4.out.kept AN.out, fun x hx => (HS4.out.fresh x hx).elim (AN.out x) (fun h1 => Nat.le_trans KC.out.size h1)⟩
            case measure => simp [intOf]; omega
          · obtain rfl : nR = j := by omega
            have hE : leanTo M nR = leantN M := by rw [HNR.out]; exact leanTo_all M
            rw [hE] at TL OT
            have HRE := Lib.hid (fun (V : World) (hV : Kept [] wc V) => rreach_c (HGR.out.kept0 (KC.out.trans hV)) (by have := HGL.out; omega) a' c' tl (leantN M) TL.out (by omega) ((OT.out.kept0 hV).sln) (leant_ok HFN.out.1))
            have HSU := Lib.hid (fun (V : World) (hV : Kept [] wc V) => rsupport_c (HGR.out.kept0 (KC.out.trans hV)) (by have := HGL.out; omega) a' c' tl (leantN M) TL.out (by omega) ((OT.out.kept0 hV).sln) (leant_ok HFN.out.1))
            unfold IntsNew at HRE HSU
            have HGT := Lib.hid (fun (V : World) (hV : Kept [] w1 V) => ref_gates (HGR.out.kept0 hV) (by have := HGL.out; omega))
            rw [gatesN_X HFN.out.1] at HGT
            have HRL := Lib.hid (reached_len M)
            have HRB := Lib.hid (show (reachL M.g.nodes (leantN M)).length ≤ 25601 from Nat.le_trans (pick_length _ _) HGL.out)
            clear hE
            go_wp2_with fail
            refine (HRE.out _ (Kept.refl [] wc)).mono ?_
            rintro e w5 ⟨la, lc, ln, rfl, hown5, k5, hf5⟩
            have hln : ln = (reachL M.g.nodes (leantN M)).length := by have := hown5.len; simpa [nats] using this.symm
            have HLN := Lib.hid hln
            have K5 := Lib.hid k5
            obtain ⟨g0, g3, g4⟩ := HC.out _ (KC.out.trans k5)
            clear hown5 k5 hf5 hln g4
            go_wp2_with fail
            refine (HSU.out _ K5.out).mono ?_
            rintro e w6 ⟨la2, lc2, ln2, rfl, hown6, k6, hf6⟩
            have hln2 : ln2 = (supportL M.g.nodes (leantN M)).length := by have := hown6.len; simpa [nats] using this.symm
            have HLN2 := Lib.hid hln2
            have K6 := Lib.hid (KC.out.trans (K5.out.trans k6))
            obtain ⟨g0, g3, g4⟩ := HC.out _ K6.out
            clear hown6 k6 hf6 hln2 g4
            obtain ⟨q1, hq1⟩ : ∃ q1, q1 = reachedN M := ⟨_, rfl⟩
            obtain ⟨q2, hq2⟩ : ∃ q2, q2 = gatesX M := ⟨_, rfl⟩
            rw [← hq2] at HGT
            have hsum : (ln : Int) - (ln2 : Int) = (q1 : Int) := by have h1 := HRL.out; rw [← HLN.out, ← HLN2.out, ← hq1] at h1; omega
            have hq1b : q1 ≤ 25601 := by have h1 := HRL.out; have h2 := HRB.out; rw [← hq1] at h1; omega
            have w1' : IntKind.i64.wrap ((ln : Int) - (ln2 : Int)) = (q1 : Int) := by rw [hsum]; exact IntWalk.i64_in _ (by omega)
            obtain ⟨dd, hdd⟩ : ∃ d, d = decide (q1 = q2) := ⟨_, rfl⟩
            have hqq : ((q1 : Int) == (q2 : Int)) = dd := by rw [hdd, Bool.eq_iff_iff]; simp; omega
            have HD0 := Lib.hid (show dd = doneTo M 0 from by rw [hdd, hq1, hq2]; simp [doneTo])
            clear hsum hq1 hq2 hdd
            have HG6 := Lib.hid (HGT.out _ K6.out)
            clear HRE HSU HGT
            go_wp2_with fail
            refine HG6.out.mono ?_
            rintro e w7 ⟨rfl, j7, rfl⟩
            have K7 := Lib.hid (K6.out.drewN j7)
            obtain ⟨g0', g3', g4'⟩ := HC.out _ K7.out
            clear g0 g3 g4' HG6
            have HN7 := Lib.hid (HND.out _ K7.out)
            go_wp2_with fail
            refine HN7.out.mono ?_
            rintro e w8 ⟨gb, rfl, ho8, k8, hge8⟩
            have K8 := Lib.hid (K7.out.trans k8)
            have HB8 := Lib.hid ho8
            clear ho8 k8 hge8 g0' g3' HN7 w1' hqq
            obtain ⟨g0, g3, g4⟩ := HC.out _ K8.out
            clear g0 g4
            go_wp2_with fail
            clear g3
            go_loopw [14, 16] (fun v iv wr => ∃ (j : Nat) (b : Bool), j ≤ nR ∧ iv = .int .i64 j ∧ v = .bool b ∧ Hid (b = doneTo M j) ∧ Kept [] w8 wr) (fun _ iv _ => nR - (intOf iv).toNat)
            case atStart => exact ⟨0, dd, Nat.zero_le _, rfl, rfl, Lib.hid HD0.out, .refl _ _⟩
            case round =>
              obtain ⟨j, b, hj, rfl, rfl, hb, hkr⟩ := hrel
              obtain ⟨wd, rfl⟩ : ∃ v : World, v = wr := ⟨_, rfl⟩
              have KD := Lib.hid hkr
              have BD := Lib.hid hb.out
              clear hkr hb
              obtain ⟨g0, g3, g4⟩ := HC.out _ (K8.out.trans KD.out)
              clear g0 g4
              by_cases hlt : j < nR
              · have hjl : j < M.regs.length := by rw [← HNR.out]; exact hlt
                obtain ⟨qb, rfl, e0, e1, e2, e3⟩ := (HP.out.rb.kept0 (K8.out.trans KD.out)) j hjl
                have hgd : M.regs.getD j ⟨0, 0, 0, false⟩ = M.regs[j]'hjl := by rw [List.getD_eq_getElem?_getD, List.getElem?_eq_getElem hjl]; rfl
                have HDS := Lib.hid (doneTo_succ M j)
                rw [hgd, ← BD.out] at HDS
                generalize M.regs[j] = r at *
                obtain ⟨q, d, en, init⟩ := r
                simp only at e0 e1 e2 e3
                have HSC := Lib.hid (fun V => rstuck_c ⟨q, d, en, init⟩ V)
                unfold rgV at HSC
                simp only at HSC
                obtain ⟨sb, hsb⟩ : ∃ b, b = stuckR ⟨q, d, en, init⟩ := ⟨_, rfl⟩
                rw [← hsb] at HSC HDS
                have cgd := own_cell_b (HB8.out.kept0 KD.out) j (by rw [HNL.out]; exact hlt)
                have j0 : (0 : Int) ≤ (j : Int) := by omega
                have j1 : (j : Int) < (nR : Int) := by omega
                clear hgd hsb hjl
                cases hb : (neededN M).getD j false with
                | false =>
                  rw [hb] at cgd HDS
                  clear hb
                  go_wp2_with fail
                  go_roundw
                  case rel => exact ⟨j + 1, false, by omega, by go_num, rfl, Lib.hid (by rw [HDS.out]; simp), KD.out⟩
                  case measure => simp [intOf]; omega
                | true =>
                  rw [hb] at cgd HDS
                  clear hb
                  go_wp2_with fail
                  refine (HSC.out _).mono ?_
                  rintro e w9 ⟨rfl, k9⟩
                  have K9 := Lib.hid (KD.out.trans k9)
                  clear k9 cgd e0 e1 e2 e3 g3
                  cases sb with
                  | true =>
                    go_wp2_with fail
                    go_roundw
                    case rel => exact ⟨j + 1, false, by omega, by go_num, rfl, Lib.hid (by rw [HDS.out]; simp), K9.out⟩
                    case measure => simp [intOf]; omega
                  | false =>
                    go_wp2_with fail
                    go_roundw
                    case rel => exact ⟨j + 1, b, by omega, by go_num, rfl, Lib.hid (by rw [HDS.out]; simp), K9.out⟩
                    case measure => simp [intOf]; omega
              · obtain rfl : nR = j := by omega
                have HD := Lib.hid (show doneN M = b from by rw [← doneTo_all HFN.out.1, ← HNR.out]; exact BD.out.symm)
                have KE := Lib.hid (K8.out.trans KD.out)
                clear BD
                cases b with
                | true =>
                  go_wp2_with fail
                  go_ret2
                  have h3 := HST.out
                  rw [HD.out, if_pos rfl] at h3
                  refine ⟨n2, F2, R2, rfl, ?_, K2.out.trans KE.out, HFR.out⟩
                  rw [← HS1.out, h3]
                  exact N2.out.kept0 KE.out
                | false =>
                  go_wp2_with fail
                  go_roundg g'
                  case measure => omega
                  case rel =>
                    have h1 := HSZ.out HD.out
                    have h2 := HL1.out
                    have h3 := HST.out
                    rw [HD.out, if_neg (by simp)] at h3
                    exact ⟨n2, F2, R2, M, rfl, N2.out.kept0 KE.out, HFN.out.1, HFN.out.2, by rw [← h3]; exact HS1.out, by omega, K2.out.trans KE.out⟩
end Go.Proofs.YtdmcdhkkbkgnbaaGreat
