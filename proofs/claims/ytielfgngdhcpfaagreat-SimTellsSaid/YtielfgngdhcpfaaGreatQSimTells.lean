/-
  Law SimTells: the walk.
-/
import Derived.Test.YtielfgngdhcpfaaGreatQTellN
import Derived.StillTailTactics
import Derived.Deep.DeepCutAuto
import Derived.Deep.LoopGhost
import Derived.Deep.CutBlock
namespace Go.Proofs.YtielfgngdhcpfaaGreat
open Go.ChangeShapes Go.WideShapes Go.ChangeAt Go.RowKit
open Go.Maps (Keyed)
open Go.WideMaps
set_option linter.unusedVariables false
set_option linter.unusedSimpArgs false

variable {w w' w1 : World} {s p n k : Nat} {F R F' R' S : List Nat} {g : Gr} {N : Nt}
def laterS : ByteArray := ⟨#[108, 97, 116, 101, 114]⟩
theorem add_zero_at (g j : Nat) : ((⟨g, 0, none⟩ : Addr).add j) = ⟨g, j, none⟩ := by unfold Addr.add; split <;> simp_all
/-- what holds behind k cycles -/
def TellRel (w0 w : World) (N : Nt) (m : Nat) (MF MR : List Nat) (v : Nat) (k : Nat) (sv : Value) : Prop :=
  ∃ s F R R2 σ, sv = .pointer (some ⟨s, 0, none⟩) ∧ TellAt w0 w N m MF MR s F R σ v R2 σ ∧ σ.N = N ∧ SmOk 60 σ ∧ σ.cy ≤ k
set_option maxHeartbeats 6400000 in
set_option maxRecDepth 100000 in
theorem sim_tells (o1 o2 : Bool) (sa : Option Addr) (sl : List NStp) (sc len : Nat) (ca : Option Addr) (cl : List Cy) (cc clen : Nat) (w : World) (hlen : sl.length = len) (hss : SlNStepsC w sa sl) (hso : ∀ s ∈ sl, s.ok) (hcl : cl.length = clen) (hclm : clen ≤ 140737488351232) (hcs : SlCy w ca cl) (hcw : ∀ r ∈ cl, r.ok) :
    Calls Tryz.prog 6 #[.agg #[.bool o1, .bool o2], .slice sa len sc, .slice ca clen cc] w fun e w' => e = .returned (.bool true) ∧ Kept [] w w' := by
  have HB := Lib.hid (fun (W : World) (hk : Kept [] w W) => built08 o1 o2 sa sl sc len W hlen (fun k hk' => by
    exact (hss.kept0 hk) k hk') hso)
  have HCS := Lib.hid hcs
  have HCW := Lib.hid hcw
  have HCL := Lib.hid hcl
  clear hlen hss hso hcs hcw hcl
  go_enter Tryz.func6, Tryz.ntmps6; (try simp only [List.append])
  go_wp2_with fail
  refine (HB.out _ ((Kept.refl [] w).alloc _)).mono ?_
  intro e w1 hx
  obtain ⟨n, NF, NR, q, F2, R2, he, hx⟩ := hx
  subst he
  have hnet := hx.net
  have href := hx.ref
  have K1 := Lib.hid (((Kept.refl [] w).alloc (.cells #[.bool o1, .bool o2] 23)).trans hx.kept)
  have NEW1 := Lib.hid (show ∀ b ∈ NF ++ NR, w.heap.size ≤ b from fun b hb => by have := hx.new1 b hb; simp at this; omega)
  have NEW2 := Lib.hid (show ∀ b ∈ F2 ++ R2, w.heap.size ≤ b from fun b hb => by have := hx.new2 b hb; simp at this; omega)
  have AP1 := Lib.hid hx.ap1
  have hfine := builtN_fine true o1 o2 sl 60
  have hchk := built_check o1 o2 sl 60
  generalize builtN true o1 o2 sl 60 = N at *
  have HN1 := Lib.hid hnet
  have HR1 := Lib.hid href
  have HFI := Lib.hid hfine
  have HCK := Lib.hid hchk
  clear hx hnet href hfine hchk HB
  go_wp2_with fail
  refine (sim_new HN1.out HFI.out (by omega) HCK.out).mono ?_
  rintro e w2 ⟨s, F, R, rfl, hs, hk2, hf2⟩
  have HS2 := Lib.hid hs
  have K2 := Lib.hid hk2
  have FR2 := Lib.hid hf2
  clear hs hk2 hf2
  go_wp2_with fail
  refine (new08 (HR1.out.kept0 K2.out) HFI.out (by omega) HCK.out).mono ?_
  rintro e w3 ⟨v, RV, rfl, hv, hk3, hv3, hf3⟩
  have HV3 := Lib.hid hv
  have K3 := Lib.hid hk3
  have K13 := Lib.hid (K2.out.trans hk3)
  have VN3 := Lib.hid hv3
  have FV3 := Lib.hid hf3
  clear hv hk3 hv3 hf3
  have l1 := HFI.out.ok.len
  have l2 := HFI.out.ok.ik
  have l3 := HFI.out.ok.rk
  have l4 := HFI.out.ok.ok
  go_wp2_with fail
  have HCP := Lib.hid (net_copy (HN1.out.kept0 K13.out) ⟨by omega, by omega, by omega, by omega⟩ (fun b hb => by have := HFI.out.ok.il b hb; omega) (fun b hb => by have := HFI.out.ok.ol b hb; omega))
  refine HCP.out.mono ?_
  rintro e w4 ⟨m, MF, MR, rfl, hm4, hk4, hf4⟩
  have HT4 := Lib.hid (show TellAt w w4 N m MF MR s F R (newS N) v RV (newS N) from by
    have z1 := K1.out.size
    have z2 := K2.out.size
    have z3 := K3.out.size
    have hvl := HV3.out.lt
    have hsl := HS2.out.lt
    refine ⟨hm4, (HS2.out.kept0 K3.out).kept0 hk4, HV3.out.kept0 hk4, fun b hb => ?_, fun b hb hx => ?_, fun b hb => ?_, (K1.out.trans K13.out).trans hk4⟩
    · rcases List.mem_cons.1 hb with rfl | hb
      · have := VN3.out; omega
      · have := FR2.out b (by simp [hb]); omega
    · have h1 := FR2.out b (by simp [hx])
      have h2 := hsl.1 b hx
      rcases List.mem_append.1 hb with hb | hb
      · have := hf4 b hb; omega
      · rcases List.mem_cons.1 hb with rfl | hb
        · have := VN3.out; omega
        · rcases FV3.out b hb with h3 | h3
          · have h4 := HR1.out.lt
            rcases List.mem_append.1 h3 with h3 | h3
            · have := h4.1 b h3; omega
            · have := h4.2 b h3; omega
          · omega
    · have h1 := hvl.1
      have h2 := VN3.out
      rcases List.mem_append.1 hb with hb | hb
      · have := hf4 b hb; omega
      · have := hsl.2 b hb; omega)
  have NK4 := Lib.hid (show NetAt w4 n NF NR N from (HN1.out.kept0 K13.out).kept0 hk4)
  have NA4 := Lib.hid (show (∀ b ∈ NF, b < w1.heap.size) ∧ (∀ b ∈ (MF ++ MR) ++ (v :: RV), b ∉ NF) ∧ ∀ b ∈ F ++ R, b ∉ NF from by
    have z2 := K2.out.size
    have z3 := K3.out.size
    have hnl := HN1.out.lt
    refine ⟨hnl.1, fun b hb hx => ?_, fun b hb hx => ?_⟩
    · have h1 := hnl.1 b hx
      rcases List.mem_append.1 hb with hb | hb
      · have := hf4 b hb; omega
      · rcases List.mem_cons.1 hb with rfl | hb
        · have := VN3.out; omega
        · rcases FV3.out b hb with h3 | h3
          · exact AP1.out b h3 hx
          · omega
    · have h1 := hnl.1 b hx
      have := FR2.out b hb; omega)
  have NEW := Lib.hid (show ∀ b ∈ NF, w.heap.size ≤ b from fun b hb => NEW1.out b (by simp [hb]))
  clear hm4 hk4 hf4 HCP HS2 HV3 K1 K2 K3 K13 VN3 FV3 FR2 HN1 HR1 NEW1 NEW2 AP1
  go_wp2_with fail
  have HAO := Lib.hid (addout_c (NK4.out.kept0 ((Kept.refl [] w4).alloc (.cells #[.int .u32 0] 59))) ⟨by omega, by omega⟩ laterS (by decide) (some ⟨w4.heap.size, 0, none⟩) 1 1 [0] rfl (by omega) (fun k hk => ⟨_, rfl, by
    have : k = 0 := by simp at hk; omega
    subst this
    exact blk_cell (heap_alloc_new w4 _) 0⟩) (by simp))
  refine HAO.out.mono ?_
  rintro e w5 ⟨NF5, NR5, rfl, hn5, hs5⟩
  have HN5 := Lib.hid hn5
  have HS5 := Lib.hid (((NStep.refl w4 NF NR).keep ((Kept.refl [] w4).alloc _)).trans hs5)
  have HF5 := Lib.hid (addOut_fine HFI.out laterS [0])
  clear hn5 hs5 HAO NK4
  generalize (addOut N laterS [0]).1 = N5 at *
  go_wp2_with fail
  have HAI := Lib.hid (addin_c HN5.out ⟨by have := HF5.out.ok.len; omega, by have := HF5.out.ok.ik; omega⟩ laterS (by decide) 3 (by omega) (by omega))
  refine HAI.out.mono ?_
  rintro e w6 ⟨NF6, NR6, a6, c6, k6, rfl, hn6, hs6, ho6, hf6⟩
  have HT6 := Lib.hid (HT4.out.aside (HS5.out.trans hs6).st.kept NEW.out NA4.out.2.1 NA4.out.2.2)
  clear hn6 hs6 ho6 hf6 HAI HN5 HS5 HF5 HT4 NA4 NEW
  have HT := Lib.hid (show TellRel w w6 N m MF MR v 0 (.pointer (some ⟨s, 0, none⟩)) from ⟨s, F, R, RV, newS N, rfl, HT6.out, rfl, newS_ok HFI.out (by omega), Nat.le_refl _⟩)
  clear HT6 l1 l2 l3 l4
  generalize (.pointer (some ⟨s, 0, none⟩) : Value) = sv0 at *
  go_wp2_with fail
  go_loopg [9, 14] 30 (fun gk sv i wr => ∃ (k : Nat), gk = 30 - k ∧ k ≤ clen ∧ k ≤ 30 ∧ i = .int .i64 k ∧ TellRel w wr N m MF MR v k sv)
  case atStart => exact ⟨0, rfl, Nat.zero_le _, by omega, rfl, HT.out⟩
  case round =>
    obtain ⟨k, hgk, hk, hk30, rfl, htr⟩ := hrel
    clear HT
    have HTR := Lib.hid htr
    clear htr
    by_cases hlt : k < clen ∧ k < 30
    · obtain ⟨hlt1, hlt2⟩ := hlt
      obtain ⟨s, F, R, R2, σ, rfl, ht, hsN, hok, hcy⟩ := HTR.out
      clear HTR
      have HT := Lib.hid ht
      have HOK := Lib.hid hok
      have HSN := Lib.hid hsN
      have HCY := Lib.hid (show σ.cy ≤ k ∧ σ.cy ≤ 1000000 from ⟨hcy, by omega⟩)
      clear ht hok hsN hcy
      have hkl : k < cl.length := by rw [HCL.out]; exact hlt1
      obtain ⟨cb, co, rfl, ⟨x0, x1, x2⟩, xw, xq⟩ := HCS.out k hkl
      have HCO := Lib.hid (HCW.out _ (List.getElem_mem hkl))
      generalize cl[k] = y at *
      obtain ⟨wh, lw, la, lc, lq, qa, qc⟩ := y
      simp only at x0 x1 x2 xw xq
      have HWW := Lib.hid (show Words lw ∧ lw.length ≤ 140737488351232 from ⟨HCO.out.wd, HCO.out.wl⟩)
      have HQQ := Lib.hid (show Lits lq ∧ lq.length ≤ 140737488351232 ∧ lq.length ≤ qc from ⟨HCO.out.ls, HCO.out.ll, HCO.out.lc⟩)
      replace x0 := HT.out.kp.cell x0 (by simp)
      replace x1 := HT.out.kp.cell x1 (by simp)
      have HXW := Lib.hid xw
      have HXQ := Lib.hid xq
      have HX2 := Lib.hid x2
      clear HCO xw xq x2
      obtain ⟨ln, hln⟩ : ∃ q, q = lw.length := ⟨_, rfl⟩
      obtain ⟨lqn, hlqn⟩ : ∃ q, q = lq.length := ⟨_, rfl⟩
      rw [← hln] at x1
      rw [← hlqn] at HX2
      have HLN := Lib.hid hln.symm
      have HLQ := Lib.hid hlqn.symm
      clear hln hlqn
      have HBI := Lib.hid (show (∀ b ∈ N.inb, b.lits.length ≤ 1000) ∧ (∀ b ∈ N.inb, b.lits.length ≤ 64) from ⟨fun b hb => by have := HFI.out.ok.il b hb; omega, fun b hb => by have := HFI.out.ok.il b hb; omega⟩)
      have HGV := Lib.hid (fun (W : World) (hnW : NetAt W m MF MR N) (hsW : Kept [] wr W) (more : Nat) (hm : more ≤ 10) => given_c hnW (by have := HFI.out.ok.ik; omega) HBI.out.1 la lc ln lw HLN.out (by rw [← HLN.out]; exact HWW.out.2) (HXW.out.kept0 (HT.out.kp.trans hsW)) more hm)
      have HRK := Lib.hid (show σ.N.regs.length ≤ 100000 ∧ σ.regs.length ≤ 1000000 from ⟨by have := HOK.out.fine.ok.rk; omega, by rw [HOK.out.rl]; have := HOK.out.fine.ok.rk; omega⟩)
      go_upto_block 2 with (fail)
      go_cut [9] (fun sv wx => TellRel w wx N m MF MR v (k + 1) sv)
      case first =>
        by_cases h0 : wh = 0
        · subst h0
          have HRV := Lib.hid (rreset_c HT.out.va HRK.out.1)
          go_wp2_with fail
          refine HRV.out.mono ?_
          rintro e w5 ⟨⟨u, rfl⟩, R3, hv, hk5, hr5⟩
          have HT5 := Lib.hid (HT.out.stepV hv hk5 hr5)
          have HRS := Lib.hid (reset2_c HT5.out.sa (by have := HRK.out.1; omega))
          clear hv hk5 hr5 HRV x0 x1
          go_wp2_with fail
          refine HRS.out.2.mono ?_
          rintro e w6 ⟨rfl, F6, R6, hs, hk6, hf6, hr6⟩
          have HT6 := Lib.hid (HT5.out.resetS HRS.out.1 hs hk6 hf6 hr6)
          clear hs hk6 hf6 hr6 HRS HT5
          go_wp2_with fail
          go_meet
          exact ⟨s, F6, R6, R3, newS σ.N, rfl, HT6.out, HSN.out, newS_ok HOK.out.fine HOK.out.k7, Nat.zero_le _⟩
        · by_cases h1 : wh = 1
          · subst h1
            have HCP := Lib.hid (sim_copy HT.out.sa HRK.out.2)
            go_wp2_with fail
            refine HCP.out.mono ?_
            rintro e w5 ⟨s', F5, rfl, hs5, hk5, hf5⟩
            have HT5 := Lib.hid (HT.out.copy hs5 hk5 hf5)
            have K5 := Lib.hid hk5
            have HF5 := Lib.hid (show ∀ b ∈ F5 ++ R, b ∉ F from fun b hb hx => by
              rcases List.mem_append.1 hb with hb | hb
              · have h1 := hf5 b hb
                have h2 := HT.out.sa.lt.1 b hx
                omega
              · exact HT.out.sa.apart b hx hb)
            have y1 := hk5.cell x1 (by simp)
            clear hs5 hk5 hf5 HCP x0 x1
            go_wp2_with fail
            refine (HGV.out w5 HT5.out.net K5.out 0 (by omega)).mono ?_
            rintro e w6 ⟨ga, gn, gc, grs, rfl, hg, hgm, hgk, hgf⟩
            have HST := Lib.hid (step_any (HT.out.sa.kept0 (K5.out.trans hgk)) HOK.out HCY.out.2 hg HWW.out.1 (more := 0) (by omega) (by rw [HSN.out]; exact hgm))
            have HT6 := Lib.hid (HT5.out.keep hgk)
            clear hg hgm hgk hgf HT5 y1
            go_wp2_with fail
            refine HST.out.mono ?_
            rintro e w7 ⟨a7, n7, c7, rs7, R7, rfl, _, _, _, hs7, hst7, _⟩
            have HE7 := Lib.hid hs7
            have HT7 := Lib.hid (HT6.out.aside hst7.st.kept (fun b hb => HT.out.f0 b (by simp [hb])) HT.out.d1 HF5.out)
            have HRS := Lib.hid (reset2_c hs7 (by rw [stepM_N]; have := HRK.out.1; omega))
            clear hs7 hst7 HST HT6
            go_wp2_with fail
            refine HRS.out.2.mono ?_
            rintro e w8 ⟨rfl, F8, R8, hs, hk8, hf8, hr8⟩
            have HT8 := Lib.hid (HT7.out.aside hk8 (fun b hb => by rw [List.mem_singleton.1 hb]; exact HT.out.f0 s (List.mem_cons_of_mem _ HRS.out.1)) (fun b hb hx => HT.out.d1 b hb (by rw [List.mem_singleton.1 hx]; exact HRS.out.1)) (fun b hb hx => HF5.out b hb (by rw [List.mem_singleton.1 hx]; exact HRS.out.1)))
            clear hs hk8 hf8 hr8 HRS HT7 HE7
            go_wp2_with fail
            go_meet
            exact ⟨s', F5, R, R2, σ, rfl, HT8.out, HSN.out, HOK.out, by have := HCY.out.1; omega⟩
          · have hz0 : (wh == (0 : Int)) = false := by simpa using h0
            have hz1 : (wh == (1 : Int)) = false := by simpa using h1
            go_upto_if 86 with (fail)
            go_cut [16] (fun mv wx => ∃ more : Nat, more ≤ 1 ∧ mv = .int .i64 (more : Int) ∧ wx = wr)
            case first =>
              by_cases h2 : wh = 2
              · have hz2 : (wh == (2 : Int)) = true := by simpa using h2
                go_wp2_with fail
                go_meet
                exact ⟨1, by omega, rfl, rfl⟩
              · have hz2 : (wh == (2 : Int)) = false := by simpa using h2
                go_wp2_with fail
                go_meet
                exact ⟨0, by omega, rfl, rfl⟩
            case rest =>
              obtain ⟨more, hmore, rfl, rfl⟩ := hcut
              clear x0 hz0 hz1 h0 h1
              obtain ⟨wr, rfl⟩ : ∃ v : World, v = wc := ⟨_, rfl⟩
              go_upto_region 18 with (fail)
              go_cut [17, 18] (fun i1 i2 wx => ∃ a1 n1 c1 r1 a2 n2 c2 r2, i1 = .slice a1 n1 c1 ∧ i2 = .slice a2 n2 c2 ∧ Kept [] wr wx ∧ WRows wx a1 n1 c1 r1 ∧ r1.map (·.l) = givenN N.inb lw more ∧ (∀ b ∈ ft a1 ++ wrBlocks r1, wr.heap.size ≤ b) ∧ WRows wx a2 n2 c2 r2 ∧ r2.map (·.l) = givenN N.inb lw more ∧ ∀ b ∈ ft a2 ++ wrBlocks r2, wr.heap.size ≤ b)
              case first =>
                have KA := Kept.refl [] wr
                have tok1 : True := trivial
                go_wp2_with fail
                go_region_held3 (fun W => W.cell? ⟨cb, co + k * 3 + 1, none⟩ = some (.slice la ln lc))
                  (first | exact Kept.cell (F := []) (w := wr) (by (repeat (first | with_reducible exact KA | with_reducible apply Kept.drew | with_reducible apply Kept.drewN | with_reducible apply Kept.alloc))) x1 (by simp) | go_keep)
                  (first
                    | (go_at_call 11; clear tok1; (with_reducible refine (HGV.out _ ?kn ?kk more (by omega)).mono ?_); (case kn => exact HT.out.net.kept0 (by (repeat (first | with_reducible exact KA | with_reducible apply Kept.drew | with_reducible apply Kept.drewN | with_reducible apply Kept.alloc)))); (case kk => ((repeat (first | with_reducible exact KA | with_reducible apply Kept.drew | with_reducible apply Kept.drewN | with_reducible apply Kept.alloc)))); rintro e w5 ⟨ga, gn, gc, grs, rfl, hg, hgm, hgk, hgf⟩; have KA1 := (show Kept [] wr _ from (by (repeat (first | with_reducible exact KA | with_reducible apply Kept.drew | with_reducible apply Kept.drewN | with_reducible apply Kept.alloc)))).trans hgk; have KA := KA1)
                    | (go_at_call 11; (with_reducible refine (HGV.out _ ?kn ?kk more (by omega)).mono ?_); (case kn => exact HT.out.net.kept0 (by (repeat (first | with_reducible exact KA | with_reducible apply Kept.drew | with_reducible apply Kept.drewN | with_reducible apply Kept.alloc)))); (case kk => ((repeat (first | with_reducible exact KA | with_reducible apply Kept.drew | with_reducible apply Kept.drewN | with_reducible apply Kept.alloc)))); rintro e w6 ⟨ga2, gn2, gc2, grs2, rfl, hg2, hgm2, hgk2, hgf2⟩; have KA := (show Kept [] wr _ from (by (repeat (first | with_reducible exact KA | with_reducible apply Kept.drew | with_reducible apply Kept.drewN | with_reducible apply Kept.alloc)))).trans hgk2))
                all_goals
                  go_wp2_with fail
                  go_meet
                  have hk56 := (show Kept [] w5 _ from by (repeat (first | with_reducible exact Kept.refl _ _ | with_reducible apply Kept.drew | with_reducible apply Kept.drewN | with_reducible apply Kept.alloc))).trans hgk2
                  have hz := KA1.size
                  exact ⟨ga, gn, gc, grs, ga2, gn2, gc2, grs2, rfl, rfl, KA, hg.kept0 hk56, hgm, fun b hb => hgf b hb, hg2, hgm2, fun b hb => by have := hgf2 b hb; omega⟩
              case rest =>
                obtain ⟨a1, n1, c1, r1, a2, n2, c2, r2, rfl, rfl, hk6, hr1, hm1, hf1, hr2, hm2, hf2⟩ := hcut
                obtain ⟨w6, rfl⟩ : ∃ v : World, v = wc := ⟨_, rfl⟩
                have HT6 := Lib.hid (HT.out.keep hk6)
                have HR1 := Lib.hid hr1
                have HR2 := Lib.hid hr2
                have HM1 := Lib.hid hm1
                have HM2 := Lib.hid hm2
                have HF1 := Lib.hid (show (∀ b ∈ ft a1 ++ wrBlocks r1, b ∉ F ∧ b ≠ v) ∧ ∀ b ∈ ft a2 ++ wrBlocks r2, b ∉ F ∧ b ≠ v from by
                  have hs := HT.out.sa.lt.1
                  have hv := HT.out.va.lt.1
                  exact ⟨fun b hb => ⟨fun hx => by have h1 := hs b hx; have h2 := hf1 b hb; omega, by have h2 := hf1 b hb; omega⟩, fun b hb => ⟨fun hx => by have h1 := hs b hx; have h2 := hf2 b hb; omega, by have h2 := hf2 b hb; omega⟩⟩)
                have HST := Lib.hid (step_any HT6.out.sa HOK.out HCY.out.2 hr1 HWW.out.1 hmore (by rw [HSN.out]; exact HM1.out))
                clear hk6 hr1 hm1 hf1 hr2 hm2 hf2 x1
                go_wp2_with fail
                refine HST.out.mono ?_
                rintro e w7 ⟨xa, xn, xc, xrs, R7, rfl, hxn, hx, hxm, hs7, hst7, hxf⟩
                have HT7 := Lib.hid (HT6.out.stepS hs7 hst7)
                have HX7 := Lib.hid hx
                have HXM := Lib.hid hxm
                have HXF := Lib.hid (show ∀ b ∈ ft xa ++ wrBlocks xrs, b ≠ v from fun b hb => by have h1 := hxf b hb; have h2 := HT6.out.va.lt.1; omega)
                have HR17 := Lib.hid (HR1.out.kept hst7.st.kept (fun b hb => (HF1.out.1 b (by simp [hb])).1) (fun b hb => (HF1.out.1 b (by simp [hb])).1))
                have HR27 := Lib.hid (HR2.out.kept hst7.st.kept (fun b hb => (HF1.out.2 b (by simp [hb])).1) (fun b hb => (HF1.out.2 b (by simp [hb])).1))
                have HRS := Lib.hid (rstep_any HT7.out.va HOK.out (by rw [HSN.out]; exact HCK.out) HCY.out.2 HR27.out HWW.out.1 hmore (by rw [HSN.out]; exact HM2.out))
                clear hx hxm hs7 hst7 hxf HST HT6 HR1 HR2
                go_wp2_with fail
                refine HRS.out.mono ?_
                rintro e w8 ⟨ya, yn, yc, yrs, R8, rfl, hyn, hy, hym, hv8, hk8, hr8, hyf⟩
                have hxy : yn = xn := by
                  have h1 := HX7.out.len
                  have h2 := hy.len
                  have h3 := congrArg List.length HXM.out
                  have h4 := congrArg List.length hym
                  rw [List.length_map] at h3 h4
                  omega
                subst hxy
                have HT8 := Lib.hid (HT7.out.stepV hv8 hk8 hr8)
                have HX8 := Lib.hid (HX7.out.kept hk8 (fun b hb hx => HXF.out b (by simp [hb]) (List.mem_singleton.1 hx)) (fun b hb hx => HXF.out b (by simp [hb]) (List.mem_singleton.1 hx)))
                have HY8 := Lib.hid hy
                have HLX := Lib.hid (show xrs.map (·.l) = yrs.map (·.l) from by rw [HXM.out, hym])
                have HSX := Lib.hid (show ∀ r ∈ xrs, r.l.length ≤ 1000000 from fun r hr => outM_short HOK.out (l := lw) (more := more) _ (by rw [← HXM.out]; exact List.mem_map_of_mem hr))
                have HR18 := Lib.hid (HR17.out.kept hk8 (fun b hb hx => (HF1.out.1 b (by simp [hb])).2 (List.mem_singleton.1 hx)) (fun b hb hx => (HF1.out.1 b (by simp [hb])).2 (List.mem_singleton.1 hx)))
                have HR28 := Lib.hid (HR27.out.kept hk8 (fun b hb hx => (HF1.out.2 b (by simp [hb])).2 (List.mem_singleton.1 hx)) (fun b hb hx => (HF1.out.2 b (by simp [hb])).2 (List.mem_singleton.1 hx)))
                have hnn : n2 = n1 := by
                  have h1 := HR17.out.len
                  have h2 := HR27.out.len
                  have h3 := congrArg List.length HM1.out
                  have h4 := congrArg List.length HM2.out
                  rw [List.length_map] at h3 h4
                  omega
                subst hnn
                have HLR := Lib.hid (show r1.map (·.l) = r2.map (·.l) from by rw [HM1.out, HM2.out])
                have HSR := Lib.hid (show ∀ r ∈ r1, r.l.length ≤ 1000000 from fun r hr => given_short HBI.out.2 (l := lw) (more := more) _ (by rw [← HM1.out]; exact List.mem_map_of_mem hr))
                have hn1m : n2 ≤ 1000000 := by
                  have h1 := HR17.out.len
                  have h3 := congrArg List.length HM1.out
                  rw [List.length_map, given_len] at h3
                  have := HFI.out.ok.ik
                  omega
                clear hy hym hv8 hk8 hr8 hyf HRS HT7 HX7 HR17 HR27 HXF HF1
                have HSAME := Lib.hid (fun (a b : Option Addr) (c d : Nat) (r1 r2 : List WR) (m : Nat) (h1 : WRows w8 a m c r1) (h2 : WRows w8 b m d r2) (he : r1.map (·.l) = r2.map (·.l)) (hle : ∀ r ∈ r1, r.l.length ≤ 1000000) (k : Nat) (hk : k < m) => rows_same h1 h2 he hle k hk)
                go_wp2_with fail
                go_loopw [23] (fun i wx => ∃ j q : Nat, j ≤ yn ∧ i = .int .i64 j ∧ wx = w8.drewN q) (fun i _ => yn - (intOf i).toNat)
                case atStart => exact ⟨0, 0, Nat.zero_le _, rfl, rfl⟩
                case round =>
                  obtain ⟨j, q, hj, rfl, rfl⟩ := hrel
                  by_cases hlt : j < yn
                  · obtain ⟨b1, b2, u1, u2, u3, v1, v2, v3, hb1, hb2, e1, e2, hc⟩ := HSAME.out xa ya xc yc xrs yrs yn HX8.out HY8.out HLX.out HSX.out j hlt
                    subst hb1 hb2
                    have HC := Lib.hid hc
                    clear hc
                    go_wp2_with fail
                    go_quiet ((go_at_call 15; exact q_drew2 (HC.out _ ((Kept.refl [] w8).drewN _))))
                    go_wp2_with fail
                    go_roundw
                    case rel => exact ⟨j + 1, _, by omega, by go_num, by first | rfl | rw [World.drewN_drewN]⟩
                    case measure => simp [intOf]; omega
                  · obtain rfl : j = yn := by omega
                    clear HX8 HY8 HLX HSX
                    go_wp2_with fail
                    go_loopw [24] (fun i wx => ∃ j q : Nat, j ≤ n2 ∧ i = .int .i64 j ∧ wx = w8.drewN q) (fun i _ => n2 - (intOf i).toNat)
                    case atStart => exact ⟨0, q, Nat.zero_le _, rfl, rfl⟩
                    case round =>
                      obtain ⟨j, q, hj, rfl, rfl⟩ := hrel
                      by_cases hlt : j < n2
                      · obtain ⟨b1, b2, u1, u2, u3, v1, v2, v3, hb1, hb2, e1, e2, hc⟩ := HSAME.out a1 a2 c1 c2 r1 r2 n2 HR18.out HR28.out HLR.out HSR.out j hlt
                        subst hb1 hb2
                        have HC := Lib.hid hc
                        clear hc
                        go_wp2_with fail
                        go_quiet ((go_at_call 15; exact q_drew2 (HC.out _ ((Kept.refl [] w8).drewN _))))
                        go_wp2_with fail
                        go_roundw
                        case rel => exact ⟨j + 1, _, by omega, by go_num, by first | rfl | rw [World.drewN_drewN]⟩
                        case measure => simp [intOf]; omega
                      · obtain rfl : j = n2 := by omega
                        go_wp2_with fail
                        go_meet
                        exact ⟨s, F, R7, R8, stepM σ lw more, rfl, HT8.out.keep ((Kept.refl [] w8).drewN q), by rw [stepM_N]; exact HSN.out, stepM_ok HOK.out HWW.out.1 more, by have h1 := stepM_cy σ lw more; have h2 := HCY.out.1; omega⟩
      case rest =>
        clear HT HOK HSN HCY HRK HGV x0 x1 HWW HXW
        obtain ⟨s, F, R, R2, σ, rfl, ht, hsN, hok, hcy⟩ := hcut
        obtain ⟨wA, rfl⟩ : ∃ v : World, v = wc := ⟨_, rfl⟩
        have HT := Lib.hid ht
        have HOK := Lib.hid hok
        have HSN := Lib.hid hsN
        have hrn : σ.regs.length ≤ 1000000 := by rw [hok.rl]; have := hok.fine.ok.rk; omega
        have HCYK := Lib.hid hcy
        clear ht hsN hcy hok
        obtain ⟨rn, hrn2⟩ : ∃ q, q = σ.regs.length := ⟨_, rfl⟩
        rw [← hrn2] at hrn
        have HRN := Lib.hid hrn2
        have HRG := Lib.hid (sim_regs HT.out.sa (by rw [← HRN.out]; exact hrn))
        rw [← hrn2] at HRG
        clear hrn2
        go_wp2_with fail
        refine HRG.out.mono ?_
        rintro e w5 ⟨ra, rc, rfl, ho5, hst5⟩
        have HT5 := Lib.hid (HT.out.keep hst5.kept)
        have HO5 := Lib.hid ho5
        have K5 := Lib.hid hst5.kept
        have HFR := Lib.hid (show ∀ b ∈ ft ra, wA.heap.size ≤ b from fun b hb => (hst5.fresh b hb).elim (fun h => by simp at h) id)
        clear ho5 hst5 HRG
        have HVA := Lib.hid (show ∃ va vc, w5.cell? ⟨v, 1, none⟩ = some (.slice va rn vc) ∧ w5.cell? ⟨v, 3, none⟩ = some (.int .i64 (σ.cy : Int)) ∧ SlN w5 .u64 va σ.regs from by
          obtain ⟨n, NF, NR, va, vc, wa, wcap, hR, hc⟩ := HT5.out.va
          exact ⟨va, vc, by rw [HRN.out]; exact blk_cell hc.blk 1, blk_cell hc.blk 3, hc.rg.sln⟩)
        obtain ⟨va, vc, cv1, cv3, hvs⟩ := HVA.out
        have HVS := Lib.hid hvs
        clear hvs HVA
        have cx2 := HT5.out.kp.cell HX2.out (by simp)
        have HSM := Lib.hid (fun (W : World) (hk' : Kept [] w5 W) => show Calls Tryz.prog 15 #[.slice ra rn rc, .slice va rn vc] W (fun e w' => e = .returned (.bool true) ∧ Kept [] W w') from by
          have h := same_eq ra va rn rn rc vc σ.regs σ.regs W HRN.out.symm HRN.out.symm hrn hrn (HO5.out.kept0 hk').sln (HVS.out.kept0 hk')
          refine h.mono ?_
          rintro e w' ⟨rfl, j, rfl⟩
          exact ⟨by simp, (Kept.refl [] W).drewN j⟩)
        have HCC := Lib.hid (fun (W : World) (hk' : Kept [] w5 W) => show Calls Tryz.prog 17 #[.pointer (some ⟨s, 0, none⟩)] W (fun e w' => e = .returned (.int .i64 (σ.cy : Int)) ∧ W = w') from sim_cycles (HT5.out.sa.kept0 hk'))
        have HAS := Lib.hid (fun (W : World) (hk' : Kept [] w5 W) => asked_c qa qc lqn lq (HT5.out.sa.kept0 hk') (HT5.out.va.kept0 hk') HOK.out HLQ.out (by rw [← HLQ.out]; exact HQQ.out.2.2) (by rw [← HLQ.out]; exact HQQ.out.2.1) ((HXQ.out.kept0 HT5.out.kp).kept0 hk') HQQ.out.1)
        go_upto_region 43 with (fail)
        go_cut [208] (fun bv wx => bv = .bool false ∧ Kept [] w5 wx)
        case first =>
          have KA := Kept.refl [] w5
          go_wp2_with fail
          go_region_held3 (fun W => W.cell? ⟨v, 1, none⟩ = some (.slice va rn vc) ∧ W.cell? ⟨v, 3, none⟩ = some (.int .i64 (σ.cy : Int)) ∧ W.cell? ⟨cb, co + k * 3 + 2, none⟩ = some (.slice qa lqn qc))
            (first | exact ⟨Kept.cell (F := []) (w := w5) (by (repeat (first | with_reducible exact KA | with_reducible apply Kept.drew | with_reducible apply Kept.drewN | with_reducible apply Kept.alloc))) cv1 (by simp), Kept.cell (F := []) (w := w5) (by (repeat (first | with_reducible exact KA | with_reducible apply Kept.drew | with_reducible apply Kept.drewN | with_reducible apply Kept.alloc))) cv3 (by simp), Kept.cell (F := []) (w := w5) (by (repeat (first | with_reducible exact KA | with_reducible apply Kept.drew | with_reducible apply Kept.drewN | with_reducible apply Kept.alloc))) cx2 (by simp)⟩ | go_keep)
            (first
              | (go_at_call 15; (with_reducible refine (HSM.out _ ?kk).mono ?_); (case kk => ((repeat (first | with_reducible exact KA | with_reducible apply Kept.drew | with_reducible apply Kept.drewN | with_reducible apply Kept.alloc)))); rintro e w6 ⟨rfl, k6⟩; have KA := (show Kept [] w5 _ from (by (repeat (first | with_reducible exact KA | with_reducible apply Kept.drew | with_reducible apply Kept.drewN | with_reducible apply Kept.alloc)))).trans k6)
              | (go_at_call 17; (with_reducible refine (HCC.out _ ?kk).mono ?_); (case kk => ((repeat (first | with_reducible exact KA | with_reducible apply Kept.drew | with_reducible apply Kept.drewN | with_reducible apply Kept.alloc)))); rintro e w6 ⟨rfl, rfl⟩)
              | (go_at_call 31; (with_reducible refine (HAS.out _ ?kk).mono ?_); (case kk => ((repeat (first | with_reducible exact KA | with_reducible apply Kept.drew | with_reducible apply Kept.drewN | with_reducible apply Kept.alloc)))); rintro e w6 ⟨rfl, k6⟩; have KA := (show Kept [] w5 _ from (by (repeat (first | with_reducible exact KA | with_reducible apply Kept.drew | with_reducible apply Kept.drewN | with_reducible apply Kept.alloc)))).trans k6))
          all_goals
            go_wp2_with fail
            go_meet
            exact ⟨rfl, by (repeat (first | with_reducible exact KA | with_reducible apply Kept.drew | with_reducible apply Kept.drewN | with_reducible apply Kept.alloc))⟩
        case rest =>
          obtain ⟨rfl, hk6⟩ := hcut
          obtain ⟨w6, rfl⟩ : ∃ v : World, v = wc := ⟨_, rfl⟩
          have HT6 := Lib.hid (HT5.out.keep hk6)
          have K6 := Lib.hid (K5.out.trans hk6)
          have HO6 := Lib.hid (show ∃ xs, Own w6 34 ra rn rc xs ∧ ∀ u ∈ xs, ∃ z : Int, u = .int .u64 z from ⟨_, HO5.out.kept0 hk6, fun u hu => by
            obtain ⟨z, _, rfl⟩ := List.mem_map.1 hu
            exact ⟨_, rfl⟩⟩)
          clear hk6 HT5 HO5 K5 cv1 cv3 cx2 HVS HSM HCC HAS
          go_wp2_with fail
          go_loopw [26] (fun i wx => ∃ (j : Nat) (xs : List Value), j ≤ rn ∧ i = .int .i64 j ∧ Own wx 34 ra rn rc xs ∧ (∀ u ∈ xs, ∃ z : Int, u = .int .u64 z) ∧ Kept (ft ra) w6 wx) (fun i _ => rn - (intOf i).toNat)
          case atStart =>
            obtain ⟨xs, h1, h2⟩ := HO6.out
            exact ⟨0, xs, Nat.zero_le _, rfl, h1, h2, Kept.refl _ _⟩
          case round =>
            obtain ⟨j, xs, hj, rfl, hown, hxs, hkx⟩ := hrel
            have HOW := Lib.hid hown
            have HXS := Lib.hid hxs
            have HKX := Lib.hid hkx
            clear hown hxs hkx
            by_cases hlt : j < rn
            · obtain ⟨g, rfl⟩ := HOW.out.form (by omega)
              have hlen := HOW.out.len
              obtain ⟨ad, ha, hcx⟩ := HOW.out.cell (k := j) (by omega)
              injection ha with ha
              subst ha
              have he := add_zero_at g j
              rw [he] at hcx
              obtain ⟨z, hz⟩ := HXS.out _ (List.getElem_mem (show j < xs.length by omega))
              rw [hz] at hcx
              obtain ⟨_, hfz, hset⟩ := HOW.out.store hlt
              have HSET := Lib.hid hset
              clear hset he hlen hz
              go_wp2_with fail
              go_roundw
              case rel => exact ⟨j + 1, _, by omega, by go_num, HSET.out _, fun u hu => (List.mem_or_eq_of_mem_set hu).elim (HXS.out u) (fun h => ⟨_, h⟩), HKX.out.setCell (.inl (by simp [ft])) _⟩
              case measure => simp [intOf]; omega
            · obtain rfl : j = rn := by omega
              have HK := Lib.hid (kept_up (Kept.refl [] wA) (K6.out.more (F' := ft ra) (by simp) |>.trans HKX.out) HFR.out)
              have HT7 := Lib.hid (HT.out.keep HK.out)
              clear HOW HXS HKX
              go_wp2_with fail
              go_roundg (30 - (k + 1))
              case measure => omega
              case rel => exact ⟨k + 1, rfl, by omega, by omega, by push_cast; rfl, s, F, R, R2, σ, rfl, HT7.out, HSN.out, HOK.out, HCYK.out⟩
    · have HKP := Lib.hid (show Kept [] w wr from by obtain ⟨s, F, R, R2, σ, _, h, _⟩ := HTR.out; exact h.kp)
      have HTL := Lib.hid (tells8 wr)
      by_cases h1 : k < clen
      · have h2 : 30 ≤ k := by omega
        go_wp2_with fail
        refine HTL.out.mono ?_
        rintro e w9 ⟨rfl, k9⟩
        have K9 := Lib.hid k9
        clear k9
        go_wp2_with fail
        go_ret
        exact ⟨rfl, HKP.out.trans K9.out⟩
      · go_wp2_with fail
        refine HTL.out.mono ?_
        rintro e w9 ⟨rfl, k9⟩
        have K9 := Lib.hid k9
        clear k9
        go_wp2_with fail
        go_ret
        exact ⟨rfl, HKP.out.trans K9.out⟩
end Go.Proofs.YtielfgngdhcpfaaGreat
