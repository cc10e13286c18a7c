/-
  NetWell: whatever is called, but Input of the graph itself, the netlist is well formed, and a call that is refused changes nothing. For any options and steps. No condition.
-/
import Derived.Test.YthiccfaldahmhaaWellM
import Derived.Test.YthiccfaldahmhaaGiveF
import Derived.Deep.RegionHeld3
namespace Go.Proofs.Ythiccfaldahmhaa
open Go.ChangeShapes Go.WideShapes Go.ChangeAt Go.RowKit
open Go.Maps (Keyed)
open Go.WideMaps
set_option linter.unusedVariables false
set_option linter.unusedSimpArgs false

def WellRel (w wr : World) (n len : Nat) (v : Value) : Prop :=
  ∃ (k : Nat) (F R : List Nat) (N : Nt), k ≤ 60 ∧ k ≤ len ∧ v = .int .i64 k ∧ NetAt wr n F R N ∧ Kept [] w wr ∧ (∀ b ∈ F, w.heap.size ≤ b) ∧ NtFine k N ∧ Full N
theorem NtFine.caps {k : Nat} {N : Nt} (h : NtFine k N) (hk : k ≤ 700) : (N.g.nodes.length ≤ 1000000 ∧ N.inb.length ≤ 10000 ∧ N.regs.length ≤ 1000000 ∧ N.outb.length ≤ 10000) ∧ (∀ b ∈ N.inb, b.lits.length ≤ 1000) ∧ ∀ b ∈ N.outb, b.lits.length ≤ 1000 := by
  have a1 := h.ok.len
  have a2 := h.ok.ik
  have a3 := h.ok.rk
  have a4 := h.ok.ok
  exact ⟨by omega, fun b hb => by have := (h.ok.il b hb).2.1; omega, fun b hb => by have := (h.ok.ol b hb).2.1; omega⟩
set_option maxHeartbeats 12800000 in
set_option maxRecDepth 100000 in
theorem netwell_walk (o1 o2 : Bool) (sa : Option Addr) (sl : List NStp) (sc : Nat) (w : World) (hsm : sl.length ≤ 140737488351232) (hss : SlNSteps w sa sl) (hso : ∀ s ∈ sl, s.ok) :
    Calls Try.prog 4 #[.agg #[.bool o1, .bool o2], .slice sa sl.length sc] w fun e w' => e = .returned (.bool true) ∧ Below w.heap.size w w' := by
  obtain ⟨len, hlen⟩ : ∃ k, k = sl.length := ⟨_, rfl⟩
  have HL := Lib.hid hlen
  rw [← hlen] at hsm ⊢
  have HS := Lib.hid hss
  have HO := Lib.hid hso
  clear hlen hss hso
  have FN := Lib.hid (newN_fine ⟨#[116, 111, 112]⟩ o1 o2 t_facts.1)
  have hmm := @run_makeMap Try.prog
  go_enter Try.func4, Try.ntmps4; (try simp only [List.append])
  go_wp2_with fail
  refine (new_net ⟨#[116, 111, 112]⟩ o1 o2 _ (by decide) t_facts.1).mono ?_
  rintro e w1 ⟨n, F, rfl, hn, hk, hf⟩
  have G1 := Lib.hid (show WellRel w w1 n len (.int .i64 ((0 : Nat) : Int)) from ⟨0, F, [], _, by omega, by omega, rfl, hn, ((Kept.refl [] w).alloc _).trans hk, fun b hb => Nat.le_trans (by simp) (hf b hb), FN.out, full_start _ _ _⟩)
  obtain ⟨p0, G0, hc0, -⟩ := hn.graphAt
  clear hn hk hf
  go_wp2_with fail
  clear hc0
  go_loopw [7] (fun i wr => WellRel w wr n len i) (fun i _ => 60 - (intOf i).toNat)
  case atStart => exact G1.out
  case round =>
    obtain ⟨k, F, R, N, h60, hkl, rfl, hN, hKR, hFF, hfine, hfull⟩ := hrel
    have HN := Lib.hid hN
    have KR := Lib.hid hKR
    have FF := Lib.hid hFF
    have HFI := Lib.hid hfine
    have HFU := Lib.hid hfull
    clear hN hKR hFF hfine hfull G1 FN
    by_cases hlt : k < len ∧ k < 60
    · obtain ⟨h1, h2⟩ := hlt
      have hkk : k < sl.length := by rw [← HL.out]; exact h1
      obtain ⟨b, o, rfl, la, lc, ⟨z0, z1, z2, z3, z4, z5, z6⟩, hlw⟩ := HS.out k hkk
      have c0 := KR.out.cell z0 (by simp)
      have c1 := KR.out.cell z1 (by simp)
      have c2 := KR.out.cell z2 (by simp)
      have c3 := KR.out.cell z3 (by simp)
      have c4 := KR.out.cell z4 (by simp)
      have c5 := KR.out.cell z5 (by simp)
      have c6 := KR.out.cell z6 (by simp)
      have hla := hlw.kept0 KR.out
      clear z0 z1 z2 z3 z4 z5 z6 hlw
      have hok := HO.out _ (List.getElem_mem hkk)
      have HD := Lib.hid (fun (W : World) (hkW : Kept [] wr W) => does_c sl[k] la lc (HN.out.kept0 hkW) (by have h := HFI.out.ok; have a1 := h.len; have a2 := h.ik; have a3 := h.rk; have a4 := h.ok; omega) hok (hla.kept0 hkW))
      generalize sl[k] = s at *
      have HCP := Lib.hid (net_copy HN.out (HFI.out.caps (by omega)).1 (HFI.out.caps (by omega)).2.1 (HFI.out.caps (by omega)).2.2)
      obtain ⟨what, nm, sn, a, bb, c, lits⟩ := s
      obtain ⟨ln, hln⟩ : ∃ k, k = lits.length := ⟨_, rfl⟩
      simp only [stepV, stepCells6] at c0 c1 c2 c3 c4 c5 c6 HD
      rw [← hln] at c6 HD
      clear hok hla hln
      by_cases h8 : what = 8
      · subst h8
        go_wp2_with fail
        go_roundw
        case rel => exact ⟨k + 1, F, R, N, by omega, by omega, by go_num, HN.out, KR.out, FF.out, HFI.out.mono, HFU.out⟩
        case measure => simp [intOf]; omega
      · have t8 : (what == 8) = false := by simpa using h8
        go_wp2_with fail
        refine HCP.out.mono ?_
        rintro e u1 ⟨n2, F2, R2, rfl, hn2, hk1, hf2⟩
        have N2 := Lib.hid hn2
        have K1 := Lib.hid hk1
        have F2f := Lib.hid hf2
        have d0 := hk1.cell c0 (by simp)
        have d1 := hk1.cell c1 (by simp)
        have d2 := hk1.cell c2 (by simp)
        have d3 := hk1.cell c3 (by simp)
        have d4 := hk1.cell c4 (by simp)
        have d5 := hk1.cell c5 (by simp)
        have d6 := hk1.cell c6 (by simp)
        clear hn2 hk1 hf2 c0 c1 c2 c3 c4 c5 c6
        go_wp2_with fail
        refine (HD.out _ K1.out).mono ?_
        intro e u2 hx
        obtain ⟨F4, R4, a4, c4, k4, he, hn4, hs4, ho4, hf4⟩ := hx
        have hN2 := N2.out.kept hs4.st.kept (fun b hb h => by have q1 := F2f.out b (by simp [hb]); have q2 := HN.out.lt.1 b h; omega) (fun b hb h => by have q1 := F2f.out b (by simp [hb]); have q2 := HN.out.lt.1 b h; omega)
        have N24 := Lib.hid hN2
        have N4 := Lib.hid hn4
        have U4 := Lib.hid (NStep.up (KR.out.trans K1.out) FF.out hs4)
        have FI4 := Lib.hid (doesN_fine HFI.out ⟨what, nm, sn, a, bb, c, lits⟩)
        have FU4 := Lib.hid (full_does HFI.out HFU.out ⟨what, nm, sn, a, bb, c, lits⟩ h8)
        have HER := Lib.hid (did_err (N := N) (s := ⟨what, nm, sn, a, bb, c, lits⟩))
        clear hn4 hs4 ho4 hf4 d0 d1 d2 d3 d4 d5 d6 HD hN2
        generalize hres : doesN N ⟨what, nm, sn, a, bb, c, lits⟩ = res at *
        obtain ⟨N', row, y⟩ := res
        simp only at he N4 FI4 FU4 HER
        have HCK := Lib.hid (fun (W : World) (hkW : Kept [] u2 W) => show Calls Try.prog 18 #[.pointer (some ⟨n, 0, none⟩)] W (IntIs 0 W) from by
          have h := check_c (N4.out.kept0 hkW) FI4.out (by omega)
          rw [show checkN N' = 0 by unfold checkN; rw [fullB_of FU4.out]; rfl] at h
          exact h)
        clear hres
        by_cases hy0 : y = 0
        · subst hy0
          have he' : e = .returned (.tuple #[.slice a4 k4 c4, .int .i64 0]) := by rw [he]; rfl
          subst he'
          clear he
          go_wp2_with fail
          refine (HCK.out _ (.refl _ _)).mono ?_
          rintro e u3 ⟨rfl, hk3⟩
          have K3 := Lib.hid hk3
          clear hk3
          go_wp2_with fail
          go_roundw
          case rel => exact ⟨k + 1, F4, R4, N', by omega, by omega, by go_num, N4.out.kept0 K3.out, U4.out.1.trans K3.out, U4.out.2, FI4.out, FU4.out⟩
          case measure => simp [intOf]; omega
        · have hNN := HER.out hy0
          subst hNN
          have t1 : ((y : Int) != 0) = true := by simpa using hy0
          have t2 : ((y : Int) == 0) = false := by simpa using hy0
          have HSM := Lib.hid (net_same N24.out N4.out (HFI.out.caps (by omega)).1 (HFI.out.caps (by omega)).2.1 (HFI.out.caps (by omega)).2.2)
          subst he
          clear hy0
          go_wp2_with fail
          refine HSM.out.mono ?_
          rintro e u3 ⟨rfl, hk3⟩
          have K3 := Lib.hid hk3
          clear hk3
          go_wp2_with fail
          refine (HCK.out _ K3.out).mono ?_
          rintro e u4 ⟨rfl, hk4⟩
          have K4 := Lib.hid (K3.out.trans hk4)
          clear hk4
          go_wp2_with fail
          go_roundw
          case rel => exact ⟨k + 1, F4, R4, N', by omega, by omega, by go_num, N4.out.kept0 K4.out, U4.out.1.trans K4.out, U4.out.2, FI4.out, FU4.out⟩
          case measure => simp [intOf]; omega
    · rcases (show (k < len ∧ ¬ k < 60) ∨ (¬ k < len ∧ True) from by by_cases h : k < len; exact .inl ⟨h, by omega⟩; exact .inr ⟨h, trivial⟩) with ⟨h1, h2⟩ | ⟨h1, h2⟩
      all_goals
        clear hlt
        obtain ⟨p, G, ia, ic, ra, rc, oa, oc, ri, ro, hFe, hRe, hc⟩ := HN.out
        have HC := Lib.hid hc
        have HFE := Lib.hid hFe
        have HRE := Lib.hid hRe
        have HCP := Lib.hid ((HFI.out.caps (by omega)))
        obtain ⟨mm, hm⟩ : ∃ m, m = wr.heap.size := ⟨_, rfl⟩
        obtain ⟨w5, hw5⟩ : ∃ w5, w5 = wr.alloc (.map #[] 0) := ⟨_, rfl⟩
        have K5 := Lib.hid (show Kept [] wr w5 from by rw [hw5]; exact (Kept.refl [] wr).alloc _)
        have LM := Lib.hid (show LitMap w5 mm (openF []) 0 from by
          have h := MapG.new wr Try.prog 44
          rw [litF_none] at h
          rw [hm, hw5]
          exact h)
        have MF := Lib.hid (show mm ∉ F ∧ mm ∉ R ∧ w.heap.size ≤ mm from ⟨fun h => by have := HN.out.lt.1 mm h; omega, fun h => by have := HN.out.lt.2 mm h; omega, by have := KR.out.size; omega⟩)
        have C2a := cell_alloc hc.c2 (.map #[] 0)
        obtain ⟨nI, hnI⟩ : ∃ k, k = N.inb.length := ⟨_, rfl⟩
        have HNI := Lib.hid hnI
        rw [← hnI] at C2a
        have HM5 := Lib.hid hm
        have HW5 := Lib.hid hw5
        have HCW := Lib.hid (fun (W : World) (hk : Kept [mm] w5 W) => show NetC W n N p G ia ic ra rc oa oc ri ro from (hc.kept K5.out (by simp) (by simp)).kept hk (fun b hb h => by simp at h; subst h; exact MF.out.1 (by rw [hFe]; exact hb)) (fun b hb h => by simp at h; subst h; exact MF.out.2.1 (by rw [hRe]; exact hb)))
        have HNW := Lib.hid (fun (W : World) (hk : Kept [mm] w5 W) => show NetAt W n F R N from ⟨p, G, ia, ic, ra, rc, oa, oc, ri, ro, HFE.out, HRE.out, HCW.out W hk⟩)
        have KWW := Lib.hid (fun (W : World) (hk : Kept [mm] w5 W) => show Kept [] w W from kept_up (KR.out.trans K5.out) hk (fun b hb => by simp at hb; subst hb; exact MF.out.2.2))
        have HRL := Lib.hid (show ri.length = nI from by rw [hnI, ← hc.ib.is]; simp)
        have hnI2 : nI ≤ 1000 := by have := HFI.out.ok.ik; omega
        have hicap : nI ≤ ic := by
          rcases hc.ib.own.2 with ⟨hv, h0⟩ | ⟨gb, cap', cur, hv, h0, hg, hle, _⟩
          · omega
          · injection hv with hv1 hv2 hv3
            subst hv3
            omega
        clear hFe hRe hc hnI hm hw5
        go_wp2_with fail
        rw [← HW5.out, ← HM5.out]
        clear C2a
        go_loopw [90] (fun v wr2 => ∃ j c3 : Nat, j ≤ nI ∧ v = .int .i64 j ∧ LitMap wr2 mm (openF ((ri.take j).flatMap (fun r => r.b.lits))) c3 ∧ Kept [mm] w5 wr2) (fun v _ => nI - (intOf v).toNat)
        case atStart => exact ⟨0, 0, Nat.zero_le _, rfl, by simpa using LM.out, .refl _ _⟩
        case round =>
          obtain ⟨j, c3, hj, rfl, hlm, hkr⟩ := hrel
          have LMr := Lib.hid hlm
          have KR2 := Lib.hid hkr
          clear hlm hkr
          by_cases hlt2 : j < nI
          · have hjl : j < ri.length := by rw [HRL.out]; exact hlt2
            have HCr := Lib.hid (HCW.out wr KR2.out)
            obtain ⟨gb, hia, x0, x1⟩ := HCr.out.ib.slb j hjl
            have hrow := (HCr.out.ib.rows _ (List.getElem_mem hjl)).1
            have hbm : ri[j].b ∈ N.inb := by have h := List.mem_map_of_mem (f := fun r : BR => r.b) (List.getElem_mem hjl); rw [HCr.out.ib.is] at h; exact h
            obtain ⟨l1, l2, l3, l4⟩ := HFI.out.ok.il _ hbm
            have hsz : ri[j].b.name.size ≤ 140737488351232 := by
              have h := l3
              unfold mayB at h
              simp only [Bool.and_eq_true, decide_eq_true_eq] at h
              have := h.1.2
              omega
            have HM := Lib.hid (fun (W : World) => show Calls Try.prog 19 #[.string ri[j].b.name] W (BoolIs true W) from by have h := mayname_c ri[j].b.name W hsz; rw [l3] at h; exact h)
            have HFD := Lib.hid (fun (W : World) (hk : Kept [] wr W) => show Calls Try.prog 13 #[.slice (some ⟨gb, 0, none⟩) j ic, .string ri[j].b.name] W (fun e w' => e = .returned (.tuple #[.slice none 0 0, .bool false]) ∧ Kept [] W w') from by
              have hnd : (ri.map fun r => r.b.name).Pairwise (· ≠ ·) := by have h := HFI.out.ni; rw [← HCr.out.ib.is, List.map_map] at h; exact h
              have h := find_row ri[j].b.name (some ⟨gb, 0, none⟩) ic j (ri.take j) (w := W) (by rw [List.length_take]; omega) (by omega) (((hia ▸ HCr.out.ib.slb).kept0 hk).take j) (fun r hr => by
                have hr' := List.mem_of_mem_take hr
                have hb' : r.b ∈ N.inb := by have h := List.mem_map_of_mem (f := fun r : BR => r.b) hr'; rw [HCr.out.ib.is] at h; exact h
                obtain ⟨i1, i2, _, _⟩ := HFI.out.ok.il _ hb'
                exact ⟨(HCr.out.ib.rows r hr').1.kept0 hk, i1, by omega⟩)
              rw [find_before hnd hjl] at h
              refine h.mono ?_
              rintro e w' (⟨_, h2, h3⟩ | ⟨r, h2, _⟩)
              · exact ⟨h2, h3⟩
              · cases h2)
            have HT := Lib.hid (show (ri.take (j + 1)).flatMap (fun r => r.b.lits) = (ri.take j).flatMap (fun r => r.b.lits) ++ ri[j].b.lits from by rw [take_succ_br ri j hjl, flat_snoc])
            have HND := Lib.hid (show ((ri.take j).flatMap (fun r => r.b.lits) ++ ri[j].b.lits).Nodup from by
              rw [← HT.out]
              have h := HFI.out.dn
              unfold drivenN at h
              rw [List.nodup_append] at h
              have h1 := h.1
              rw [← HCr.out.ib.is, List.flatMap_map] at h1
              rw [← List.take_append_drop (j + 1) ri, List.flatMap_append, List.nodup_append] at h1
              exact h1.1)
            have HB32 := Lib.hid (show ∀ x ∈ ri[j].b.lits, x < 4294967296 from fun x hx => by
              have h1 := l4 x hx
              have h2 := HFI.out.ok.len
              unfold Gr.ok at h1
              omega)
            have hc2 := HCr.out.c2
            rw [← HNI.out] at hc2
            have HROW := Lib.hid hrow
            have HLT := Lib.hid ((HCr.out.ib.rows _ (List.getElem_mem hjl)).2)
            have ND := Lib.hid (show ∀ b ∈ ft ri[j].a, b ≠ mm from fun b hb e => MF.out.2.1 (by rw [HRE.out, ← e]; exact List.mem_append_left _ (mem_rowsOf.2 ⟨_, List.getElem_mem hjl, hb⟩)))
            clear hrow hbm l3 l4 hsz
            subst hia
            generalize ri[j].b.lits = ll at *
            generalize ri[j].b.name = nm at *
            generalize ri[j].a = rra at *
            generalize ri[j].c = rrc at *
            obtain ⟨ln, hln⟩ : ∃ ln, ln = ll.length := ⟨_, rfl⟩
            have HLL := Lib.hid hln
            rw [← hln] at l1 l2 x1
            clear hln
            go_wp2_with fail
            obtain ⟨q, hq⟩ : ∃ q, q = wr.heap.size := ⟨_, rfl⟩
            obtain ⟨w6, hw6⟩ : ∃ w6, w6 = wr.alloc (.cells #[.string nm, .slice rra ln rrc] 60) := ⟨_, rfl⟩
            have hbl : w6.heap[q]? = some (.cells #[.string nm, .slice rra ln rrc] 60 (0, 0)) := by rw [hw6, hq]; exact heap_alloc_new wr _
            have K6 := Lib.hid (show Kept [] wr w6 from by rw [hw6]; exact (Kept.refl [] wr).alloc _)
            have HQ := Lib.hid hq
            rw [← hw6, ← hq]
            clear hw6 hq
            refine (HM.out _).mono ?_
            rintro e w7 ⟨rfl, hk7⟩
            have K7 := Lib.hid hk7
            have hbl7 := hk7.heap hbl (by simp)
            have HBL7 := Lib.hid hbl7
            have d0 : w7.cell? ⟨q, 0, none⟩ = some (.string nm) := blk_cell hbl7 0
            have d1 : w7.cell? ⟨q, 1, none⟩ = some (.slice rra ln rrc) := blk_cell hbl7 1
            have e2 := hk7.cell (K6.out.cell hc2 (by simp)) (by simp)
            have i1 : (0 : Int) ≤ (j : Int) := by omega
            have i2 : (j : Int) ≤ (ic : Int) := by omega
            clear hk7 hbl hbl7 hc2 x0 x1
            go_wp2_with fail
            go_region_held3 (fun w' => w'.cell? ⟨n, 2, none⟩ = some (.slice (some ⟨gb, 0, none⟩) nI ic) ∧ w'.cell? ⟨q, 0, none⟩ = some (.string nm))
              (first | exact ⟨Kept.cell (F := []) (w := w7) (by (repeat (first | with_reducible exact Kept.refl _ _ | with_reducible apply Kept.drew | with_reducible apply Kept.drewN | with_reducible apply Kept.alloc | refine Kept.trans ?_ hk8))) e2 (by simp), Kept.cell (F := []) (w := w7) (by (repeat (first | with_reducible exact Kept.refl _ _ | with_reducible apply Kept.drew | with_reducible apply Kept.drewN | with_reducible apply Kept.alloc | refine Kept.trans ?_ hk8))) d0 (by simp)⟩ | go_keep)
              (first
                | (go_at_call 13; (with_reducible refine (HFD.out _ (Kept.trans (K6.out.trans K7.out) ?kk)).mono ?_); (case kk => ((repeat (first | with_reducible exact Kept.refl _ _ | with_reducible apply Kept.drew | with_reducible apply Kept.drewN | with_reducible apply Kept.alloc | refine Kept.trans ?_ hk8)))); rintro e w8 ⟨rfl, hk8⟩))
            all_goals
              have K8 := Lib.hid (show Kept [] wr w8 from (K6.out.trans K7.out).trans (by (repeat (first | with_reducible exact Kept.refl _ _ | with_reducible apply Kept.drew | with_reducible apply Kept.drewN | with_reducible apply Kept.alloc | refine Kept.trans ?_ hk8))))
              have f1 : w8.cell? ⟨q, 1, none⟩ = some (.slice rra ln rrc) := Kept.cell (F := []) (w := w7) (by (repeat (first | with_reducible exact Kept.refl _ _ | with_reducible apply Kept.drew | with_reducible apply Kept.drewN | with_reducible apply Kept.alloc | refine Kept.trans ?_ hk8))) d1 (by simp)
              have LM8 := Lib.hid (show LitMap w8 mm (openF ((ri.take j).flatMap (fun r => r.b.lits))) c3 from MapG.kept LMr.out K8.out (by simp))
              have HROW8 := Lib.hid (HROW.out.kept0 K8.out)
              have KM8 := Lib.hid (KR2.out.trans (K8.out.more (by simp)))
              clear hk8 d0 d1 e2 i1 i2 HFD HM
              generalize (ri.take j).flatMap (fun r => r.b.lits) = pre at *
              go_wp2_with fail
              obtain ⟨w9, hw9⟩ : ∃ w9, w9 = w8 := ⟨_, rfl⟩
              have HW9 := Lib.hid hw9
              clear hw9
              go_loopw [132] (fun v wr3 => ∃ i c4 : Nat, i ≤ ln ∧ v = .int .i64 i ∧ LitMap wr3 mm (openF (pre ++ ll.take i)) c4 ∧ Kept [mm] w8 wr3) (fun v _ => ln - (intOf v).toNat)
              case atStart => exact ⟨0, c3, Nat.zero_le _, rfl, by simpa using LM8.out, .refl _ _⟩
              case round =>
                obtain ⟨i, c4, hi, rfl, hlm, hkr⟩ := hrel
                have LM4 := Lib.hid hlm
                have KR4 := Lib.hid hkr
                clear hlm hkr
                by_cases hlt4 : i < ln
                · have hil : i < ll.length := by rw [← HLL.out]; exact hlt4
                  obtain ⟨ad, rfl, hcx⟩ := (HROW8.out.kept KR4.out (fun b hb h => ND.out b hb (by simpa using h))) i hil
                  have hx32 := HB32.out _ (List.getElem_mem hil)
                  have hxn : ll[i] ∉ pre ++ ll.take i := fun hx => by
                    have hnd := HND.out
                    rw [List.nodup_append] at hnd
                    rcases List.mem_append.1 hx with hx | hx
                    · exact hnd.2.2 _ hx _ (List.getElem_mem hil) rfl
                    · obtain ⟨i', hi', e⟩ := List.getElem_of_mem hx
                      rw [List.length_take] at hi'
                      rw [List.getElem_take] at e
                      have := (List.nodup_iff_pairwise_ne.1 hnd.2.1)
                      exact List.pairwise_iff_getElem.1 this i' i (by omega) hil (by omega) e
                  have HT4 := Lib.hid (show pre ++ ll.take (i + 1) = (pre ++ ll.take i) ++ [ll[i]] from by rw [List.take_succ_eq_append_getElem hil, List.append_assoc])
                  generalize ll[i] = x at *
                  have e1 := Lib.hid (show openF (pre ++ ll.take i) x = none from by unfold openF; rw [if_neg hxn])
                  have q1 := LM4.out.look x hx32
                  rw [e1.out] at q1
                  simp only [Option.getD_none] at q1
                  have HY := Lib.hid (lit_key x hx32)
                  clear hxn
                  go_wp2_with (at_mapUpdate; refine wpList_updG (key := .int .u32 (x : Int)) (val := .int .i64 1) rfl rfl lit_law Try.underlying58 rfl rfl rfl LM4.out HY.out ?_; intro w10 hm10 hk10)
                  have LM10 := Lib.hid (show ∃ c, LitMap w10 mm (openF (pre ++ ll.take (i + 1))) c from ⟨_, by unfold LitMap; rw [HT4.out, ← openF_snoc, ← litF_upd]; exact hm10⟩)
                  have K10 := Lib.hid hk10
                  clear hm10 hk10 q1
                  go_wp2_with fail
                  go_roundw
                  case rel =>
                    obtain ⟨c10, h10⟩ := LM10.out
                    exact ⟨i + 1, c10, by omega, by go_num, h10, KR4.out.trans K10.out⟩
                  case measure => simp [intOf]; omega
                · obtain rfl : i = ln := by omega
                  have HTL := Lib.hid (show ll.take i = ll from List.take_of_length_le (by rw [← HLL.out]; exact Nat.le_refl _))
                  rw [HTL.out] at LM4
                  go_wp2_with fail
                  go_roundw
                  case rel => exact ⟨j + 1, c4, by omega, by go_num, by rw [HT.out]; exact LM4.out, KM8.out.trans KR4.out⟩
                  case measure => simp [intOf]; omega
          · obtain rfl : j = nI := by omega
            have HD1 := Lib.hid (show (ri.take j).flatMap (fun r => r.b.lits) = N.inb.flatMap (·.lits) from by
              rw [List.take_of_length_le (by rw [HRL.out]; exact Nat.le_refl _), ← HC.out.ib.is, List.flatMap_map])
            rw [HD1.out] at LMr
            obtain ⟨w6, rfl⟩ : ∃ v : World, v = wr := ⟨_, rfl⟩
            obtain ⟨DI, hDI⟩ : ∃ D, D = N.inb.flatMap (·.lits) := ⟨_, rfl⟩
            have HDI := Lib.hid hDI
            rw [← hDI] at LMr
            obtain ⟨nR, hnR⟩ : ∃ k, k = N.regs.length := ⟨_, rfl⟩
            have HNR := Lib.hid hnR
            obtain ⟨nn, hnn⟩ : ∃ k, k = N.g.nodes.length := ⟨_, rfl⟩
            have HNN := Lib.hid hnn
            have hc3 := (HCW.out _ KR2.out).c3
            rw [← hnR] at hc3
            have hnR2 : nR ≤ 1000 := by have h2 := HFI.out.ok.rk; omega
            have hnn2 : nn ≤ 10000 := by have h2 := HFI.out.ok.len; omega
            clear HD1 hDI hnR hnn hlt2 hj
            go_wp2_with fail
            go_loopw [147] (fun v wr4 => ∃ j2 c4 : Nat, j2 ≤ nR ∧ v = .int .i64 j2 ∧ LitMap wr4 mm (openF (DI ++ (N.regs.take j2).map (·.q))) c4 ∧ Kept [mm] w5 wr4) (fun v _ => nR - (intOf v).toNat)
            case atStart => exact ⟨0, c3, Nat.zero_le _, rfl, by simpa using LMr.out, KR2.out⟩
            case round =>
              obtain ⟨j2, c4, hj2, rfl, hlm, hkr⟩ := hrel
              have LM4 := Lib.hid hlm
              have KR4 := Lib.hid hkr
              clear hlm hkr
              by_cases hlt4 : j2 < nR
              · have hjl : j2 < N.regs.length := by rw [← HNR.out]; exact hlt4
                have HCr := Lib.hid (HCW.out _ KR4.out)
                obtain ⟨gb, hra, x0, x1, x2, x3⟩ := (regs_sl rfl HCr.out.rb) j2 hjl
                obtain ⟨r1, r2, r3⟩ := HFI.out.ok.rl _ (List.getElem_mem hjl)
                have HT := Lib.hid (show (N.regs.take (j2 + 1)).map (·.q) = (N.regs.take j2).map (·.q) ++ [N.regs[j2].q] from by rw [List.take_succ_eq_append_getElem hjl, List.map_append]; rfl)
                have hxn : N.regs[j2].q ∉ DI ++ (N.regs.take j2).map (·.q) := fun hx => by
                  have hnd := HFI.out.dn
                  unfold drivenN at hnd
                  rw [← HDI.out, List.nodup_append] at hnd
                  rcases List.mem_append.1 hx with hx | hx
                  · exact hnd.2.2 _ hx _ (List.mem_map_of_mem (List.getElem_mem hjl)) rfl
                  · obtain ⟨i', hi', e⟩ := List.getElem_of_mem hx
                    rw [List.length_map, List.length_take] at hi'
                    rw [List.getElem_map, List.getElem_take] at e
                    have := (List.nodup_iff_pairwise_ne.1 hnd.2.1)
                    exact List.pairwise_iff_getElem.1 this i' j2 (by simp; omega) (by simpa using hjl) (by omega) (by simpa using e)
                have hc0 := HCr.out.c0
                have HGR := Lib.hid HCr.out.gr
                unfold Gr.ok at r1 r2 r3
                rw [← HNN.out] at r1 r2 r3
                generalize N.regs[j2] = rg at *
                obtain ⟨x, yd, ye, bi⟩ := rg
                simp only at x0 x1 x2 x3 hxn HT r1 r2 r3
                have hx32 : x < 4294967296 := by omega
                have hd32 : yd < 4294967296 := by omega
                have he32 : ye < 4294967296 := by omega
                have e1 := Lib.hid (show openF (DI ++ (N.regs.take j2).map (·.q)) x = none from by unfold openF; rw [if_neg hxn])
                have q1 : ∀ o, (Instr.lookup 58 (.map (some mm)) (.int .u32 (x : Int)) false).run Try.prog (wr.alloc o) = .ok (.int .i64 0) (wr.alloc o) := fun o => by
                  have h := LitMap.look (show LitMap (wr.alloc o) mm _ c4 from MapG.kept LM4.out ((Kept.refl [] wr).alloc o) (by simp)) x hx32
                  rw [e1.out] at h
                  simpa using h
                have HY := Lib.hid (lit_key x hx32)
                have g1 : decide ((nn : Int) ≤ (yd : Int) / 2) = false := by rw [decide_eq_false_iff_not]; omega
                have g2 : decide ((nn : Int) ≤ (ye : Int) / 2) = false := by rw [decide_eq_false_iff_not]; omega
                have HBX := Lib.hid (heap_alloc_new wr (.cells #[.int .u32 (x : Int), .int .u32 (yd : Int), .int .u32 (ye : Int), .bool bi] 53))
                have HQM := Lib.hid (show wr.heap.size ∉ [mm] from by simp; have h := LM4.out.lt; omega)
                have LM4a := Lib.hid (show LitMap (wr.alloc (.cells #[.int .u32 (x : Int), .int .u32 (yd : Int), .int .u32 (ye : Int), .bool bi] 53)) mm (openF (DI ++ (N.regs.take j2).map (·.q))) c4 from MapG.kept LM4.out ((Kept.refl [] wr).alloc _) (by simp))
                subst hra
                clear hxn
                go_wp2_with (at_mapUpdate; refine wpList_updG (key := .int .u32 (x : Int)) (val := .int .i64 1) rfl rfl lit_law Try.underlying58 rfl rfl rfl LM4a.out HY.out ?_; intro w10 hm10 hk10; have hb10 := hk10.heap HBX.out HQM.out; have z1 : w10.cell? ⟨wr.heap.size, 1, none⟩ = some (.int .u32 (yd : Int)) := blk_cell hb10 1; have z2 : w10.cell? ⟨wr.heap.size, 2, none⟩ = some (.int .u32 (ye : Int)) := blk_cell hb10 2; have z0 : w10.cell? ⟨n, 0, none⟩ = some (.pointer (some ⟨p, 0, none⟩)) := (HCW.out _ (KR4.out.trans ((((Kept.refl [mm] wr).alloc _)).trans hk10))).c0; clear hb10)
                have LM10 := Lib.hid (show ∃ c, LitMap w10 mm (openF (DI ++ (N.regs.take (j2 + 1)).map (·.q))) c from ⟨_, by unfold LitMap; rw [HT.out, ← List.append_assoc, ← openF_snoc, ← litF_upd]; exact hm10⟩)
                have K10 := Lib.hid (KR4.out.trans ((((Kept.refl [mm] wr).alloc _)).trans hk10))
                have HGN := Lib.hid (fun k => show Calls Try.prog 7 #[.pointer (some ⟨p, 0, none⟩)] (w10.drewN k) (fun e w' => e = .returned (.int .i64 (nn : Nat)) ∧ w10.drewN k = w') from by
                  have h := aig_nodes ((HCW.out _ K10.out).gr.kept0 ((Kept.refl [] w10).drewN k)) (show N.g.nodes.length ≤ 1000000 by rw [← HNN.out]; omega)
                  rw [← HNN.out] at h
                  exact h)
                clear hm10 hk10 q1 hc0 x0 x1 x2 x3
                go_wp2_with fail
                go_quiet (first
                  | (go_at_call 9; with_reducible exact q_same (lit_node yd _ hd32))
                  | (go_at_call 9; with_reducible exact q_same (lit_node ye _ he32))
                  | (go_at_call 7; with_reducible exact q_same (HGN.out _)))
                go_wp2_with fail
                go_roundw
                case rel =>
                  obtain ⟨c10, h10⟩ := LM10.out
                  exact ⟨j2 + 1, c10, by omega, by go_num, MapG.kept h10 ((Kept.refl [] w10).drewN _) (by simp), K10.out.drewN _⟩
                case measure => simp [intOf]; omega
              · obtain rfl : j2 = nR := by omega
                obtain ⟨wa, rfl⟩ : ∃ v : World, v = wr := ⟨_, rfl⟩
                have HDD := Lib.hid (show DI ++ (N.regs.take j2).map (·.q) = drivenN N from by rw [List.take_of_length_le (by rw [← HNR.out]; exact Nat.le_refl _), HDI.out]; rfl)
                rw [HDD.out] at LM4
                have HCa := Lib.hid (HCW.out _ KR4.out)
                have hc4 := HCa.out.c4
                obtain ⟨nO, hnO⟩ : ∃ k, k = N.outb.length := ⟨_, rfl⟩
                have HNO2 := Lib.hid hnO
                rw [← hnO] at hc4
                have HRO := Lib.hid (show ro.length = nO from by rw [hnO, ← HCa.out.ob.is]; simp)
                have hnO2 : nO ≤ 1000 := by have h2 := HFI.out.ok.ok; omega
                clear hnO hlt4 hj2
                go_wp2_with fail
                go_loopw [182] (fun v wr5 => ∃ j3 : Nat, j3 ≤ nO ∧ v = .int .i64 j3 ∧ Kept [] wa wr5) (fun v _ => nO - (intOf v).toNat)
                case atStart => exact ⟨0, Nat.zero_le _, rfl, .refl _ _⟩
                case round =>
                  obtain ⟨j3, hj3, rfl, hkr⟩ := hrel
                  have KR5 := Lib.hid hkr
                  clear hkr
                  by_cases hlt5 : j3 < nO
                  · have hjl : j3 < ro.length := by rw [HRO.out]; exact hlt5
                    obtain ⟨gb, hia, x0, x1⟩ := (HCa.out.ob.slb.kept0 KR5.out) j3 hjl
                    have hrow := (HCa.out.ob.rows _ (List.getElem_mem hjl)).1.kept0 KR5.out
                    have hbm : ro[j3].b ∈ N.outb := by have h := List.mem_map_of_mem (f := fun r : BR => r.b) (List.getElem_mem hjl); rw [HCa.out.ob.is] at h; exact h
                    obtain ⟨l1, l2, l3, l4⟩ := HFI.out.ok.ol _ hbm
                    have HROW := Lib.hid hrow
                    have HOKL := Lib.hid l4
                    have hc0 := (HCa.out.kept KR5.out (by simp) (by simp)).c0
                    have hc0' := fun o => cell_alloc hc0 o
                    have HGN := Lib.hid (fun (W : World) (hk : Kept [] wa W) k => show Calls Try.prog 7 #[.pointer (some ⟨p, 0, none⟩)] (W.drewN k) (fun e w' => e = .returned (.int .i64 (nn : Nat)) ∧ W.drewN k = w') from by
                      have h := aig_nodes (HCa.out.gr.kept0 (hk.drewN k)) (show N.g.nodes.length ≤ 1000000 by rw [← HNN.out]; omega)
                      rw [← HNN.out] at h
                      exact h)
                    subst hia
                    clear hrow hbm l3 l4
                    generalize ro[j3].b.lits = ll at *
                    generalize ro[j3].b.name = nm at *
                    generalize ro[j3].a = rra at *
                    generalize ro[j3].c = rrc at *
                    obtain ⟨ln, hln⟩ : ∃ ln, ln = ll.length := ⟨_, rfl⟩
                    have HLL := Lib.hid hln
                    rw [← hln] at l1 l2 x1
                    clear hln
                    go_wp2_with fail
                    obtain ⟨w6b, hw6⟩ : ∃ w6b, w6b = wr.alloc (.cells #[.string nm, .slice rra ln rrc] 60) := ⟨_, rfl⟩
                    have K6 := Lib.hid (show Kept [] wr w6b from by rw [hw6]; exact (Kept.refl [] wr).alloc _)
                    have HROW6 := Lib.hid (HROW.out.kept0 K6.out)
                    have g0 : w6b.cell? ⟨n, 0, none⟩ = some (.pointer (some ⟨p, 0, none⟩)) := K6.out.cell hc0 (by simp)
                    rw [← hw6]
                    clear hw6 x0 x1 hc0 hc0'
                    go_loopw [189] (fun v wr6 => ∃ i d : Nat, i ≤ ln ∧ v = .int .i64 i ∧ wr6 = w6b.drewN d) (fun v _ => ln - (intOf v).toNat)
                    case atStart => exact ⟨0, 0, Nat.zero_le _, rfl, rfl⟩
                    case round =>
                      obtain ⟨i, d, hi, rfl, rfl⟩ := hrel
                      by_cases hlt6 : i < ln
                      · have hil : i < ll.length := by rw [← HLL.out]; exact hlt6
                        obtain ⟨ad, rfl, hcx⟩ := HROW6.out i hil
                        have hxo := HOKL.out _ (List.getElem_mem hil)
                        unfold Gr.ok at hxo
                        rw [← HNN.out] at hxo
                        generalize ll[i] = x at *
                        have hx32 : x < 4294967296 := by omega
                        have g1 : decide ((nn : Int) ≤ (x : Int) / 2) = false := by rw [decide_eq_false_iff_not]; omega
                        have HGN2 := Lib.hid (fun k => HGN.out w6b (KR5.out.trans K6.out) k)
                        go_wp2_with fail
                        go_quiet (first
                          | (go_at_call 9; with_reducible exact q_same2 (lit_node x _ hx32))
                          | (go_at_call 9; with_reducible exact q_same (lit_node x _ hx32))
                          | (go_at_call 7; with_reducible exact q_same2 (HGN2.out _))
                          | (go_at_call 7; with_reducible exact q_same (HGN2.out _)))
                        go_wp2_with fail
                        go_roundw
                        case rel => exact ⟨i + 1, _, by omega, by go_num, rfl⟩
                        case measure => simp [intOf]; omega
                      · obtain rfl : i = ln := by omega
                        go_wp2_with fail
                        go_roundw
                        case rel => exact ⟨j3 + 1, by omega, by go_num, (KR5.out.trans K6.out).drewN d⟩
                        case measure => simp [intOf]; omega
                  · obtain rfl : j3 = nO := by omega
                    obtain ⟨wb, rfl⟩ : ∃ v : World, v = wr := ⟨_, rfl⟩
                    have HCb := Lib.hid (HCa.out.kept KR5.out (by simp) (by simp))
                    have LMb := Lib.hid (show LitMap wb mm (openF (drivenN N)) c4 from MapG.kept LM4.out KR5.out (by simp))
                    have KMb := Lib.hid (KR4.out.trans (KR5.out.more (by simp)))
                    have hc0 := HCb.out.c0
                    have HIN := Lib.hid (aig_inputs HCb.out.gr (show N.g.nodes.length ≤ 1000000 by have := HNN.out; omega))
                    obtain ⟨mI, hmI⟩ : ∃ k, k = (ins N.g.nodes).length := ⟨_, rfl⟩
                    have HMI := Lib.hid hmI
                    have hmI2 : mI ≤ 10000 := by have h := insFrom_length 0 N.g.nodes; have h2 : (ins N.g.nodes).length ≤ N.g.nodes.length := h; have := HNN.out; omega
                    rw [← hmI] at HIN
                    clear hmI hlt5 hj3
                    go_wp2_with fail
                    refine HIN.out.mono ?_
                    rintro e w7 ⟨ai, ci, rfl, hoi, hsi⟩
                    have OI := Lib.hid hoi
                    have K7 := Lib.hid hsi.kept
                    have FI := Lib.hid (show ∀ b ∈ ft ai, b ≠ mm from fun b hb => by
                      rcases hsi.fresh b hb with h | h
                      · simp at h
                      · have := LMb.out.lt; omega)
                    have LM7 := Lib.hid (show LitMap w7 mm (leftF (drivenN N) []) c4 from by rw [← leftF_nil]; exact MapG.kept LMb.out K7.out (by simp))
                    have KM7 := Lib.hid (KMb.out.trans (K7.out.more (by simp)))
                    clear hoi hsi hc0
                    go_wp2_with fail
                    go_loopw [209] (fun v wr7 => ∃ t c7 : Nat, t ≤ mI ∧ v = .int .i64 t ∧ LitMap wr7 mm (leftF (drivenN N) (((ins N.g.nodes).take t).map (2 * ·))) c7 ∧ Kept [mm] w7 wr7) (fun v _ => mI - (intOf v).toNat)
                    case atStart => exact ⟨0, c4, Nat.zero_le _, rfl, by simpa using LM7.out, .refl _ _⟩
                    case round =>
                      obtain ⟨t, c7, ht, rfl, hlm, hkr⟩ := hrel
                      have LM8 := Lib.hid hlm
                      have KR8 := Lib.hid hkr
                      clear hlm hkr
                      by_cases hlt7 : t < mI
                      · have htl : t < (ins N.g.nodes).length := by rw [← HMI.out]; exact hlt7
                        obtain ⟨ad, rfl, hcx⟩ := (OI.out.kept KR8.out (fun b hb h => FI.out b hb (by simpa using h))).sln t htl
                        have hil := ins_lt N.g.nodes _ (List.getElem_mem htl)
                        have HT := Lib.hid (show ((ins N.g.nodes).take (t + 1)).map (2 * ·) = ((ins N.g.nodes).take t).map (2 * ·) ++ [2 * (ins N.g.nodes)[t]] from by rw [List.take_succ_eq_append_getElem htl, List.map_append]; rfl)
                        have e1 := Lib.hid (show leftF (drivenN N) (((ins N.g.nodes).take t).map (2 * ·)) (2 * (ins N.g.nodes)[t]) = some 1 from by unfold leftF; rw [if_pos ⟨HFU.out _ (List.getElem_mem htl), ins_nodup2 _ htl⟩])
                        generalize (ins N.g.nodes)[t] = iv at *
                        have HO' := Lib.hid (show ofV (iv : Int) false = 2 * iv ∧ ofE (iv : Int) = 0 from by have := HNN.out; exact ⟨by unfold ofV ifL; rw [if_pos (by omega)]; simp, by unfold ofE; rw [if_pos (by omega)]⟩)
                        obtain ⟨y, hy⟩ : ∃ y, y = 2 * iv := ⟨_, rfl⟩
                        rw [← hy] at HO' HT e1
                        have hy32 : y < 4294967296 := by have := HNN.out; omega
                        have q1 := LM8.out.look y hy32
                        rw [e1.out] at q1
                        simp only [Option.getD_some] at q1
                        have HY := Lib.hid (lit_key y hy32)
                        clear hy hil
                        go_wp2_with fail
                        refine (lit_of _ _ _).mono ?_
                        rw [HO'.out.1, HO'.out.2]
                        rintro e w' ⟨rfl, rfl⟩
                        go_wp2_with (at_delete; refine wpList_delG (key := .int .u32 (y : Int)) rfl rfl lit_law Try.underlying58 rfl rfl LM8.out HY.out ?_; intro w9 c9 hm9 hk9)
                        have LM9 := Lib.hid (show LitMap w9 mm (leftF (drivenN N) (((ins N.g.nodes).take (t + 1)).map (2 * ·))) c9 from by unfold LitMap; rw [HT.out, ← leftF_snoc, ← litF_del]; exact hm9)
                        have K9 := Lib.hid (KR8.out.trans hk9)
                        clear hm9 hk9 q1
                        go_wp2_with fail
                        go_roundw
                        case rel => exact ⟨t + 1, c9, by omega, by go_num, LM9.out, K9.out⟩
                        case measure => simp [intOf]; omega
                      · obtain rfl : t = mI := by omega
                        rw [List.take_of_length_le (by rw [← HMI.out]; exact Nat.le_refl _)] at LM8
                        have hz := MapG.empty LM8.out (leftF_all HFI.out)
                        subst hz
                        have KE := Lib.hid (KWW.out _ (KM7.out.trans KR8.out))
                        have hlen0 : ∀ ty, (Builtin.len_ #[58] ty #[.map (some mm)]).run Try.prog wr = .ok (.int .i64 0) wr := fun ty => LM8.out.len Try.underlying58 ty
                        go_wp2_with fail
                        refine (tells6 _).mono ?_
                        rintro e w9 ⟨rfl, hk9⟩
                        have K9 := Lib.hid (KE.out.trans hk9)
                        clear hk9 hlen0
                        go_wp2_with fail
                        go_ret
                        exact ⟨rfl, K9.out.below⟩

set_option maxRecDepth 100000 in
theorem netwell_lifted (os : Os) (started : os.Started) (H : Type) (enc : TypeId × Value → H) :
    ReturnsInHanded {} Try.checked os 4 .any (Rows.netWellSpec.pre6 enc Try.prog Try.f4 Rows.netWellRow.domain false) (Rows.netWellSpec.post enc Try.prog Try.f4 false true false false) := by
  refine returnsInHanded_of_change_sized (C := Try.checked) own started (by kernel_rfl) Try.func4
    (ChangeSpec.witness6 (enc := enc) (C := Try.checked) false ⟨#[], #[.agg #[.bool false, .bool false], .slice none 0 0], []⟩ 8 (by kernel_rfl) (by kernel_rfl) (by kernel_rfl) (by kernel_rfl)) ?_
  intro W base args ds gs before hval0 hW _ hsz0 _
  have hval : ∀ (j : Nat) t v, Try.f4.params[j]? = some t → args[j]? = some v → Value.okWide Try.prog W .any base t v := hval0
  have hend := fun W' (hb : Below W.heap.size W W') => law_post (s := Rows.netWellSpec) (fn := Try.f4) laidOut (by kernel_rfl) rfl ⟨4, rfl, Try.underlying4⟩ (fun l hl => by match l, hl with | [_, _], _ => rfl) hW hb
  obtain ⟨p, q, hA0, hV, rfl, hfz, hnd⟩ := hW
  have hA : DataW.TrodAll enc Try.prog W 0 (fun _ => true) true Try.f4.params.toList args.toList ds p := hA0
  have hsz : (DataW.weightsEach Try.prog (Try.f4.params.toList ++ Rows.netWellSpec.plain.varTypes Try.prog) (ds ++ gs)).all (· ≤ reachBytes) = true := hsz0
  rw [Try.params4] at hA hval hsz
  obtain ⟨v0, vs0, d0, ds0, p0, q0, hargs, rfl, rfl, h0, r0⟩ := trodAll_cons hA
  obtain ⟨v1, vs1, d1, ds1, p1, q1, rfl, rfl, rfl, h1, r1⟩ := trodAll_cons r0
  obtain ⟨rfl, rfl, rfl⟩ := trodAll_nil r1
  obtain rfl : args = #[v0, v1] := by cases args; simp_all
  obtain ⟨rfl, rfl⟩ := trodVars_none hV
  obtain ⟨oa0, ob0, rfl⟩ := open_opts (hval 0 23 v0 rfl rfl) h0 (Sized.arg (j := 0) hsz rfl rfl)
  obtain ⟨na1, nl1, nc1, rfl, nm1, ns1, no1⟩ := open_nsteps (hval 1 24 v1 rfl rfl) h1 (Sized.arg (j := 1) hsz rfl rfl)
  refine (netwell_walk oa0 ob0 na1 nl1 nc1 W nm1 ns1 no1).mono fun e W' ⟨he, hb⟩ => ?_
  subst he
  exact hend W' hb

theorem netwell_over : Rows.netWellRow.holds Try.pinned (OpenSpec.ofChange Rows.netWellSpec) :=
  OpenClaim.holds_of_wide 4 Try.f4 rfl rfl rfl rfl rfl rfl rfl ⟨rfl, rfl, rfl, rfl, rfl⟩ rfl rfl rfl rfl rfl (by kernel_rfl) Try.func4 (by kernel_rfl)
    (of_decide_eq_true (by kernel_rfl)) (by unfold Func.isWrapper; first | (rw [if_pos (by decide +kernel)]; kernel_rfl) | (rw [if_neg (by decide +kernel)]; exact ⟨rfl, rfl⟩))
    (fun os started H enc _ => netwell_lifted os started H enc)

theorem netWell_holds : Rows.NetWellSaid := netwell_over
end Go.Proofs.Ythiccfaldahmhaa
