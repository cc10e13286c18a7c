/-
  Law SimLanes: the walk.
-/
import Derived.Test.YtielfgngdhcpfaaGreatQLanesT
import Derived.Test.YtielfgngdhcpfaaGreatQSimAgain
import Derived.BigQuiet
namespace Go.Proofs.YtielfgngdhcpfaaGreat
open Go.ChangeShapes Go.WideShapes Go.ChangeAt Go.RowKit
open Go.Maps (Keyed)
open Go.WideMaps
set_option linter.unusedVariables false
set_option linter.unusedSimpArgs false

variable {w w' w1 : World} {s p n k : Nat} {F R F' R' S : List Nat} {g : Gr} {N : Nt}
set_option maxHeartbeats 6400000 in
set_option maxRecDepth 100000 in
theorem sim_lanes (o1 o2 : Bool) (sa : Option Addr) (sl : List NStp) (sc len : Nat) (ca : Option Addr) (cl : List WR) (cc clen : Nat) (by' lane' : Nat) (w : World) (hlen : sl.length = len) (hss : SlNStepsC w sa sl) (hso : ∀ s ∈ sl, s.ok) (hcl : cl.length = clen) (hclm : clen ≤ 140737488351232) (hcs : SlW w ca cl) (hcw : ∀ r ∈ cl, Words r.l ∧ r.l.length ≤ 17592186043904) (hby : by' < 256) (hla : lane' < 256) :
    Calls Tryz.prog 3 #[.agg #[.bool o1, .bool o2], .slice sa len sc, .slice ca clen cc, .int .u8 (by' : Int), .int .u8 (lane' : Int)] w (YesKept w) := by
  have HB := Lib.hid (fun (W : World) (hk : Kept [] w W) => built08 o1 o2 sa sl sc len W hlen (fun k hk' => by
    exact (hss.kept0 hk) k hk') hso)
  have HCS := Lib.hid hcs
  have HCW := Lib.hid hcw
  have HCL := Lib.hid hcl
  clear hlen hss hso hcs hcw hcl
  go_enter Tryz.func3, Tryz.ntmps3; (try simp only [List.append])
  go_wp2_with fail
  refine (HB.out _ ((Kept.refl [] w).alloc _)).mono ?_
  intro e w1 hx
  obtain ⟨n, NF, NR, qq, F2, R2, he, hx⟩ := hx
  subst he
  have hnet := hx.net
  have K1 := Lib.hid (((Kept.refl [] w).alloc (.cells #[.bool o1, .bool o2] 23)).trans hx.kept)
  have NEW1 := Lib.hid (show ∀ b ∈ NF ++ NR, w.heap.size ≤ b from fun b hb => by have := hx.new1 b hb; simp at this; omega)
  have hfine := builtN_fine true o1 o2 sl 60
  have hchk := built_check o1 o2 sl 60
  generalize builtN true o1 o2 sl 60 = N at *
  have HN1 := Lib.hid hnet
  have HFI := Lib.hid hfine
  have HCK := Lib.hid hchk
  clear hx hnet hfine hchk HB
  go_wp2_with fail
  refine (sim_new HN1.out HFI.out (by omega) HCK.out).mono ?_
  rintro e w2 ⟨a, Fa, Ra, rfl, hs, hk2, hf2⟩
  have HA2 := Lib.hid hs
  have HN2 := Lib.hid (HN1.out.kept0 hk2)
  have K12 := Lib.hid hk2
  have FA2 := Lib.hid hf2
  clear hs hk2 hf2
  go_wp2_with fail
  refine (sim_new HN2.out HFI.out (by omega) HCK.out).mono ?_
  rintro e w3 ⟨b, Fb, Rb, rfl, hs, hk2, hf2⟩
  have HB3 := Lib.hid hs
  have HN3 := Lib.hid (HN2.out.kept0 hk2)
  have K23 := Lib.hid hk2
  have FB3 := Lib.hid hf2
  clear hs hk2 hf2
  go_wp2_with fail
  refine (sim_new HN3.out HFI.out (by omega) HCK.out).mono ?_
  rintro e w4 ⟨c, Fc, Rc, rfl, hs, hk2, hf2⟩
  have TA := Lib.hid (show TriAt w w4 N n NF NR a Fa Ra (newS N) b Fb Rb (newS N) c Fc Rc (newS N) from by
    have z1 := K1.out.size
    have z2 := K12.out.size
    have z3 := K23.out.size
    have la : ∀ x ∈ Fa ++ Ra, w1.heap.size ≤ x ∧ x < w2.heap.size := fun x hx => ⟨FA2.out x hx, (List.mem_append.1 hx).elim (HA2.out.lt.1 x) (HA2.out.lt.2 x)⟩
    have lb : ∀ x ∈ Fb ++ Rb, w2.heap.size ≤ x ∧ x < w3.heap.size := fun x hx => ⟨FB3.out x hx, (List.mem_append.1 hx).elim (HB3.out.lt.1 x) (HB3.out.lt.2 x)⟩
    have lc : ∀ x ∈ Fc ++ Rc, w3.heap.size ≤ x := fun x hx => hf2 x hx
    have ln : ∀ x ∈ NF ++ NR, x < w1.heap.size := fun x hx => (List.mem_append.1 hx).elim (HN1.out.lt.1 x) (HN1.out.lt.2 x)
    have lfa : ∀ x ∈ Fa, w1.heap.size ≤ x ∧ x < w2.heap.size := fun x hx => la x (by simp [hx])
    have lfb : ∀ x ∈ Fb, w2.heap.size ≤ x ∧ x < w3.heap.size := fun x hx => lb x (by simp [hx])
    have lfc : ∀ x ∈ Fc, w3.heap.size ≤ x := fun x hx => lc x (by simp [hx])
    refine ⟨HN3.out.kept0 hk2, (HA2.out.kept0 K23.out).kept0 hk2, HB3.out.kept0 hk2, hs, fun x hx hy => ?_, fun x hx hy => ?_, fun x hx hy => ?_, fun x hx hy => ?_, fun x hy => ?_, ((K1.out.trans K12.out).trans K23.out).trans hk2⟩
    · have h1 := la x hx
      rcases List.mem_append.1 hy with hy | hy
      · have := lfb x hy; omega
      · have := lfc x hy; omega
    · have h1 := lb x hx
      rcases List.mem_append.1 hy with hy | hy
      · have := lfc x hy; omega
      · have := lfa x hy; omega
    · have h1 := lc x hx
      rcases List.mem_append.1 hy with hy | hy
      · have := lfa x hy; omega
      · have := lfb x hy; omega
    · have h1 := ln x hx
      simp only [List.mem_append] at hy
      rcases hy with hy | hy | hy
      · have := lfa x hy; omega
      · have := lfb x hy; omega
      · have := lfc x hy; omega
    · simp only [List.mem_append] at hy
      rcases hy with hy | hy | hy
      · have := lfa x hy; omega
      · have := lfb x hy; omega
      · have := lfc x hy; omega)
  clear HA2 HB3 HN1 HN2 HN3 K1 K12 K23 FA2 FB3 hs hk2 hf2 NEW1
  obtain ⟨C, hC⟩ : ∃ C, C = cl.map (·.l) := ⟨_, rfl⟩
  have HC := Lib.hid hC
  have HCO := Lib.hid (show ∀ l ∈ C, Words l from fun l hl => by rw [hC] at hl; obtain ⟨y, hy, rfl⟩ := List.mem_map.1 hl; exact (HCW.out y hy).1)
  clear hC
  obtain ⟨r, hr⟩ : ∃ r, r = by' % 64 := ⟨_, rfl⟩
  obtain ⟨m, hm⟩ : ∃ m, m = lane' % 64 := ⟨_, rfl⟩
  have hr64 : r < 64 := by omega
  have hm64 : m < 64 := by omega
  have HRR := Lib.hid (show ((by' : Int) % 64) = (r : Int) from by rw [hr]; rfl)
  have HMM := Lib.hid (show ((lane' : Int) % 64) = (m : Int) from by rw [hm]; rfl)
  have hm' : lane' % 64 = m := hm.symm
  clear hr hm
  obtain ⟨one, hone⟩ : ∃ one, one = 2 ^ m := ⟨_, rfl⟩
  have HONE := Lib.hid (show IntKind.u64.wrap (2 ^ (lane' % 64)) = ((one : Nat) : Int) from by
    rw [hm', hone, show (2 : Int) ^ m = ((2 ^ m : Nat) : Int) from by push_cast; rfl]
    exact IntWalk.u64_in _ (by
      have : 2 ^ m < 2 ^ 64 := Nat.pow_lt_pow_right (by omega) hm64
      omega))
  have hone64 : one < 18446744073709551616 := by
    rw [hone]
    have : 2 ^ m < 2 ^ 64 := Nat.pow_lt_pow_right (by omega) hm64
    omega
  have HOP := Lib.hid hone
  clear hone hm'
  have HROT := Lib.hid (fun (x : Nat) (W : World) (hx : x < 18446744073709551616) => show Calls Tryz.prog 9 #[.int .u64 (x : Int), .int .i64 ((by' : Int) % 64)] W _ from by
    rw [HRR.out]
    exact rot_c x r W hr64 hx)
  go_wp2_with fail
  rw [HONE.out]
  clear HONE
  go_loopw [20] (fun i wr => ∃ (k : Nat) (Ra Rb Rc : List Nat), k ≤ clen ∧ k ≤ 20 ∧ i = .int .i64 k ∧ TriAt w wr N n NF NR a Fa Ra (sgs N C k) b Fb Rb (sgs N (turnC r C) k) c Fc Rc (sgs N (laneC m C) k)) (fun i _ => 20 - (intOf i).toNat)
  case atStart => exact ⟨0, Ra, Rb, Rc, Nat.zero_le _, by omega, rfl, TA.out⟩
  case round =>
    obtain ⟨k, Ra, Rb, Rc, hk, hk20, rfl, htri⟩ := hrel
    have HP := Lib.hid htri
    clear htri TA
    by_cases hlt : k < clen ∧ k < 20
    · obtain ⟨hlt1, hlt2⟩ := hlt
      have hkl : k < cl.length := by rw [HCL.out]; exact hlt1
      obtain ⟨cb, co, e8, x1, x2⟩ := (HCS.out.kept0 HP.out.kp) k hkl
      subst e8
      have hw1 := (HCW.out _ (List.getElem_mem hkl))
      have HCG := Lib.hid (show C.getD k [] = cl[k].l from by rw [HC.out, List.getD_eq_getElem?_getD, List.getElem?_map, List.getElem?_eq_getElem hkl]; rfl)
      have HCT := Lib.hid (show (turnC r C).getD k [] = cl[k].l.map (rotW r) from by rw [HC.out]; unfold turnC; rw [List.getD_eq_getElem?_getD, List.getElem?_map, List.getElem?_map, List.getElem?_eq_getElem hkl]; rfl)
      have HCA := Lib.hid (show (laneC m C).getD k [] = cl[k].l.map (fun x => x &&& one) from by rw [HC.out]; unfold laneC; rw [List.getD_eq_getElem?_getD, List.getElem?_map, List.getElem?_map, List.getElem?_eq_getElem hkl, HOP.out]; rfl)
      have HRW := Lib.hid (show ∀ l ∈ turnC r C, Words l from fun l hl => by
        unfold turnC at hl
        obtain ⟨y, hy, rfl⟩ := List.mem_map.1 hl
        intro x hx
        obtain ⟨v, hv, rfl⟩ := List.mem_map.1 hx
        exact rotW_lt r v hr64 (HCO.out y hy v hv))
      have HLW := Lib.hid (show ∀ l ∈ laneC m C, Words l from fun l hl => by
        unfold laneC at hl
        obtain ⟨y, hy, rfl⟩ := List.mem_map.1 hl
        intro x hx
        obtain ⟨v, hv, rfl⟩ := List.mem_map.1 hx
        exact and_word (HCO.out y hy v hv))
      have l2 := HFI.out.ok.ik
      have l4 := HFI.out.ok.ok
      go_wp2_with fail
      have ed : decide ((k : Int) < 20) = true := by rw [decide_eq_true_eq]; omega
      rw [ed]
      clear ed
      obtain ⟨wA, rfl⟩ : ∃ v : World, v = wr := ⟨_, rfl⟩
      clear x1
      have X2 := Lib.hid x2
      clear x2
      go_loopw [21, 22, 84] (fun tv av iv wx => ∃ (j : Nat) (a1 : Option Addr) (c1 : Nat) (a2 : Option Addr) (c2 : Nat), j ≤ cl[k].l.length ∧ iv = .int .i64 j ∧ tv = .slice a1 j c1 ∧ av = .slice a2 j c2 ∧ Own wx 34 a1 j c1 (nats .u64 ((cl[k].l.take j).map (rotW r))) ∧ Own wx 34 a2 j c2 (nats .u64 ((cl[k].l.take j).map (fun x => x &&& one))) ∧ Kept [] wA wx ∧ (∀ b ∈ ft a1, wA.heap.size ≤ b ∧ b ∉ ft a2) ∧ ∀ b ∈ ft a2, wA.heap.size ≤ b) (fun _ _ iv _ => cl[k].l.length - (intOf iv).toNat)
      case atStart => exact ⟨0, none, 0, none, 0, Nat.zero_le _, rfl, rfl, rfl, by simpa [nats] using Own.nil _ _, by simpa [nats] using Own.nil _ _, .refl _ _, by simp [ft], by simp [ft]⟩
      case round =>
        obtain ⟨j, a1, c1, a2, c2, hj, rfl, rfl, rfl, ho1, ho2, hkx, hf1, hf2⟩ := hrel
        have HO1 := Lib.hid ho1
        have HO2 := Lib.hid ho2
        have KX := Lib.hid hkx
        have HF1 := Lib.hid hf1
        have HF2 := Lib.hid hf2
        clear ho1 ho2 hkx hf1 hf2
        by_cases hjl : j < cl[k].l.length
        · obtain ⟨ad, had, hcv⟩ := (X2.out.kept0 KX.out) j hjl
          have hv := hw1.1 _ (List.getElem_mem hjl)
          have HT1 := Lib.hid (turn_snoc (rotW r) cl[k].l j hjl)
          have HT2 := Lib.hid (turn_snoc (fun x => x &&& one) cl[k].l j hjl)
          have hll := hw1.2
          obtain ⟨ve, hve⟩ : ∃ ve, ve = cl[k].l[j] &&& one := ⟨_, rfl⟩
          have HAND : bits .and .u64 ((cl[k].l[j] : Nat) : Int) (one : Int) = (ve : Int) := by rw [hve]; exact u64_and_nat _ _ hv hone64
          have HVE := Lib.hid hve
          have HT2' : (cl[k].l.take (j + 1)).map (fun x => x &&& one) = (cl[k].l.take j).map (fun x => x &&& one) ++ [ve] := by rw [HT2.out, hve]
          have HR2 := Lib.hid (HROT.out cl[k].l[j] wr hv)
          obtain ⟨vr, hvr⟩ : ∃ vr, vr = rotW r cl[k].l[j] := ⟨_, rfl⟩
          rw [← hvr] at HR2 HT1
          have HT3 := Lib.hid HT2'
          clear HT2' HT2 hve hvr HVE
          generalize cl[k].l[j] = v at *
          generalize cl[k].a = la at *
          subst had
          have s1 := HO1.out.len
          clear s1
          go_wp2_with fail
          refine HR2.out.mono ?_
          rintro e w5 ⟨rfl, rfl⟩
          have hown1 := HO1.out
          have hown2 := HO2.out
          have bl : j + 1 ≤ maxLen := by unfold maxLen; omega
          go_wp2_with (first
            | (at_builtin; refine wpList_push (u := .int .u64 (vr : Int)) rfl rfl Tryz.underlying35 u64_info rfl rfl rfl hown1 rfl bl (by omega) ?_; intro a3 c3 w3 hown3 hst3; have hown4 := hown2.kept hst3.kept (fun b hb hx => (HF1.out b hx).2 hb))
            | (at_builtin; refine wpList_push (u := .int .u64 (ve : Int)) rfl rfl Tryz.underlying35 u64_info rfl rfl rfl hown4 rfl bl (by omega) ?_; intro a5 c5 w5 hown5 hst5))
          go_roundw
          case rel =>
            have z1 := KX.out.size
            have z3 := hst3.kept.size
            refine ⟨j + 1, a3, c3, a5, c5, by omega, by go_num, rfl, rfl, ?_, ?_, kept_up (kept_up KX.out hst3.kept (fun b hb => (HF1.out b hb).1)) hst5.kept HF2.out, fun b hb => ⟨?_, fun hx => ?_⟩, fun b hb => ?_⟩
            · rw [HT1.out, ← nats_append]
              exact hown3.kept hst5.kept (fun b hb hx => (hst3.fresh b hb).elim (fun h => (HF1.out b h).2 hx) (fun h => by have := HO2.out.lt b hx; omega))
            · rw [HT3.out, ← nats_append]
              exact hown5
            · exact (hst3.fresh b hb).elim (fun h => (HF1.out b h).1) (fun h => by omega)
            · rcases hst5.fresh b hx with h | h
              · exact (hst3.fresh b hb).elim (fun h' => (HF1.out b h').2 h) (fun h' => by have := HO2.out.lt b h; omega)
              · have := hown3.lt b hb; omega
            · exact (hst5.fresh b hb).elim (fun h => HF2.out b h) (fun h => by omega)
          case measure => simp [intOf]; omega

        · obtain rfl : j = cl[k].l.length := by omega
          rw [List.take_of_length_le (Nat.le_refl _)] at HO1 HO2
          have S1 := Lib.hid HO1.out.sln
          have S2 := Lib.hid HO2.out.sln
          obtain ⟨w5, rfl⟩ : ∃ v : World, v = wr := ⟨_, rfl⟩
          have P5 := Lib.hid (HP.out.keep KX.out)
          have LT5 := Lib.hid (show ∀ b ∈ Fa ++ (Fb ++ Fc), b < wA.heap.size from HP.out.lt)
          have hll := hw1.2
          obtain ⟨_, _, e8, x1, x2⟩ := (HCS.out.kept0 P5.out.kp) k hkl
          injection e8 with e8
          injection e8 with e8 e9
          subst e8 e9
          clear X2
          have hcyA := sgs_cy N C k
          have hsNA := sgs_N N C k
          have hcyB := sgs_cy N (turnC r C) k
          have hsNB := sgs_N N (turnC r C) k
          have hcyC := sgs_cy N (laneC m C) k
          have hsNC := sgs_N N (laneC m C) k
          have SOA := Lib.hid (sgs_ok HFI.out (by omega) HCO.out k)
          have SOB := Lib.hid (sgs_ok HFI.out (by omega) HRW.out k)
          have SOC := Lib.hid (sgs_ok HFI.out (by omega) HLW.out k)
          have LWA := Lib.hid (show Words (cl[k].l) from hw1.1)
          have LLA := Lib.hid (show (cl[k].l).length = cl[k].l.length from rfl)
          have HGV := Lib.hid (given_c P5.out.net (by omega) (fun b hb => by have := HFI.out.ok.il b hb; omega) cl[k].a cl[k].c cl[k].l.length (cl[k].l) LLA.out (by omega) x2 0 (by omega))
          have HCY := Lib.hid (show cyc N (C) k = givenN N.inb (cl[k].l) 0 from by unfold cyc; rw [HCG.out])
          have HFT := Lib.hid (given_fits N.inb (cl[k].l))
          have HGL := Lib.hid (show (givenN N.inb (cl[k].l) 0).length = N.inb.length from fitB_len HFT.out)
          have HWO := Lib.hid (given_words (b := N.inb) LWA.out 0)
          go_wp2_with fail
          refine HGV.out.mono ?_
          rintro e w6 ⟨ga, gn, gc, grs, rfl, hg, hgm, hgk, hgf⟩
          have HG := Lib.hid hg
          have HGM := Lib.hid hgm
          have KG := Lib.hid hgk
          clear hg hgm hgk hgf HGV
          have PG := Lib.hid (P5.out.keep KG.out)
          have HST := Lib.hid (sim_step PG.out.sa SOA.out (by rw [hcyA]; omega) (by have := HG.out.len; have h2 := congrArg List.length HGM.out; have h3 := HGL.out; simp at h2; omega) HG.out (fun r hr => HWO.out _ (by rw [← HGM.out]; exact List.mem_map_of_mem hr)) (by rw [HGM.out, hsNA]; exact HFT.out))
          rw [HGM.out, ← HCY.out] at HST
          go_wp2_with fail
          refine HST.out.mono ?_
          intro e w7 hx
          obtain ⟨xa, xc, xrs, RA, he, hrows, hmap, hsim, hst, hfr⟩ := hx
          rw [hsNA] at he hrows hmap
          subst he
          have P7 := Lib.hid ((PG.out.step (σ' := sgs N (C) (k + 1)) hsim hst).turn)
          have KA := Lib.hid hst.st.kept
          have ZA := Lib.hid KG.out.size
          have WA := Lib.hid (show WRows w7 xa N.outb.length xc xrs from hrows)
          have MA := Lib.hid (show xrs.map (·.l) = told N (C) k from hmap)
          have FA := Lib.hid hfr
          have GA := Lib.hid KG.out
          clear hrows hmap hsim hst hfr HST HG HGM KG PG HCY HFT HGL HWO
          have LFa := Lib.hid (show ∀ b ∈ Fa, b < wA.heap.size from fun b hb => LT5.out b (by simp [hb]))
          have LFb := Lib.hid (show ∀ b ∈ Fb, b < wA.heap.size from fun b hb => LT5.out b (by simp [hb]))
          have LFc := Lib.hid (show ∀ b ∈ Fc, b < wA.heap.size from fun b hb => LT5.out b (by simp [hb]))
          have T1 := Lib.hid ((S1.out.kept0 GA.out).kept KA.out (fun b hb hx => by have := (HF1.out b hb).1; have := LFa.out b hx; omega))
          have T2 := Lib.hid ((S2.out.kept0 GA.out).kept KA.out (fun b hb hx => by have := HF2.out b hb; have := LFa.out b hx; omega))
          clear x1 x2 S1 S2
          have LWB := Lib.hid (show Words (cl[k].l.map (rotW r)) from fun x hx => by obtain ⟨v, hv, rfl⟩ := List.mem_map.1 hx; exact rotW_lt r v hr64 (hw1.1 v hv))
          have LLB := Lib.hid (show (cl[k].l.map (rotW r)).length = cl[k].l.length from by simp)
          have HGV := Lib.hid (given_c P7.out.net (by omega) (fun b hb => by have := HFI.out.ok.il b hb; omega) a1 c1 cl[k].l.length (cl[k].l.map (rotW r)) LLB.out (by omega) T1.out 0 (by omega))
          have HCY := Lib.hid (show cyc N (turnC r C) k = givenN N.inb (cl[k].l.map (rotW r)) 0 from by unfold cyc; rw [HCT.out])
          have HFT := Lib.hid (given_fits N.inb (cl[k].l.map (rotW r)))
          have HGL := Lib.hid (show (givenN N.inb (cl[k].l.map (rotW r)) 0).length = N.inb.length from fitB_len HFT.out)
          have HWO := Lib.hid (given_words (b := N.inb) LWB.out 0)
          go_wp2_with fail
          refine HGV.out.mono ?_
          rintro e w8 ⟨ga, gn, gc, grs, rfl, hg, hgm, hgk, hgf⟩
          have HG := Lib.hid hg
          have HGM := Lib.hid hgm
          have KG := Lib.hid hgk
          clear hg hgm hgk hgf HGV
          have PG := Lib.hid (P7.out.keep KG.out)
          have HST := Lib.hid (sim_step PG.out.sa SOB.out (by rw [hcyB]; omega) (by have := HG.out.len; have h2 := congrArg List.length HGM.out; have h3 := HGL.out; simp at h2; omega) HG.out (fun r hr => HWO.out _ (by rw [← HGM.out]; exact List.mem_map_of_mem hr)) (by rw [HGM.out, hsNB]; exact HFT.out))
          rw [HGM.out, ← HCY.out] at HST
          go_wp2_with fail
          refine HST.out.mono ?_
          intro e w9 hx
          obtain ⟨ya, yc, yrs, RB, he, hrows, hmap, hsim, hst, hfr⟩ := hx
          rw [hsNB] at he hrows hmap
          subst he
          have P9 := Lib.hid ((PG.out.step (σ' := sgs N (turnC r C) (k + 1)) hsim hst).turn)
          have KB := Lib.hid hst.st.kept
          have ZB := Lib.hid KG.out.size
          have WB := Lib.hid (show WRows w9 ya N.outb.length yc yrs from hrows)
          have MB := Lib.hid (show yrs.map (·.l) = told N (turnC r C) k from hmap)
          have FB := Lib.hid hfr
          have GB := Lib.hid KG.out
          clear hrows hmap hsim hst hfr HST HG HGM KG PG HCY HFT HGL HWO
          have T3 := Lib.hid ((T2.out.kept0 GB.out).kept KB.out (fun b hb hx => by have := HF2.out b hb; have := LFb.out b hx; omega))
          clear T1 T2
          have LWC := Lib.hid (show Words (cl[k].l.map (fun x => x &&& one)) from fun x hx => by obtain ⟨v, hv, rfl⟩ := List.mem_map.1 hx; exact and_word (hw1.1 v hv))
          have LLC := Lib.hid (show (cl[k].l.map (fun x => x &&& one)).length = cl[k].l.length from by simp)
          have HGV := Lib.hid (given_c P9.out.net (by omega) (fun b hb => by have := HFI.out.ok.il b hb; omega) a2 c2 cl[k].l.length (cl[k].l.map (fun x => x &&& one)) LLC.out (by omega) T3.out 0 (by omega))
          have HCY := Lib.hid (show cyc N (laneC m C) k = givenN N.inb (cl[k].l.map (fun x => x &&& one)) 0 from by unfold cyc; rw [HCA.out])
          have HFT := Lib.hid (given_fits N.inb (cl[k].l.map (fun x => x &&& one)))
          have HGL := Lib.hid (show (givenN N.inb (cl[k].l.map (fun x => x &&& one)) 0).length = N.inb.length from fitB_len HFT.out)
          have HWO := Lib.hid (given_words (b := N.inb) LWC.out 0)
          go_wp2_with fail
          refine HGV.out.mono ?_
          rintro e w10 ⟨ga, gn, gc, grs, rfl, hg, hgm, hgk, hgf⟩
          have HG := Lib.hid hg
          have HGM := Lib.hid hgm
          have KG := Lib.hid hgk
          clear hg hgm hgk hgf HGV
          have PG := Lib.hid (P9.out.keep KG.out)
          have HST := Lib.hid (sim_step PG.out.sa SOC.out (by rw [hcyC]; omega) (by have := HG.out.len; have h2 := congrArg List.length HGM.out; have h3 := HGL.out; simp at h2; omega) HG.out (fun r hr => HWO.out _ (by rw [← HGM.out]; exact List.mem_map_of_mem hr)) (by rw [HGM.out, hsNC]; exact HFT.out))
          rw [HGM.out, ← HCY.out] at HST
          go_wp2_with fail
          refine HST.out.mono ?_
          intro e w11 hx
          obtain ⟨za, zc, zrs, RC, he, hrows, hmap, hsim, hst, hfr⟩ := hx
          rw [hsNC] at he hrows hmap
          subst he
          have P11 := Lib.hid ((PG.out.step (σ' := sgs N (laneC m C) (k + 1)) hsim hst).turn)
          have KC := Lib.hid hst.st.kept
          have ZC := Lib.hid KG.out.size
          have WC := Lib.hid (show WRows w11 za N.outb.length zc zrs from hrows)
          have MC := Lib.hid (show zrs.map (·.l) = told N (laneC m C) k from hmap)
          have FC := Lib.hid hfr
          have GC := Lib.hid KG.out
          clear hrows hmap hsim hst hfr HST HG HGM KG PG HCY HFT HGL HWO
          clear T3
          have y5 := KX.out.size
          have y7 := KA.out.size
          have y9 := KB.out.size
          have X11 := Lib.hid (show WRows w11 xa N.outb.length xc xrs from ((((WA.out.kept0 GB.out).kept KB.out (fun b hb hx => by have := FA.out b (by simp [hb]); have := LFb.out b hx; have := ZA.out; omega) (fun b hb hx => by have := FA.out b (by simp [hb]); have := LFb.out b hx; have := ZA.out; omega)).kept0 GC.out).kept KC.out (fun b hb hx => by have := FA.out b (by simp [hb]); have := LFc.out b hx; have := ZA.out; omega) (fun b hb hx => by have := FA.out b (by simp [hb]); have := LFc.out b hx; have := ZA.out; omega)))
          have Y11 := Lib.hid (show WRows w11 ya N.outb.length yc yrs from ((WB.out.kept0 GC.out).kept KC.out (fun b hb hx => by have := FB.out b (by simp [hb]); have := LFc.out b hx; have := ZA.out; have := ZB.out; omega) (fun b hb hx => by have := FB.out b (by simp [hb]); have := LFc.out b hx; have := ZA.out; have := ZB.out; omega)))
          have HTR := Lib.hid (told_rel (N := N) (turn_closed hr64) HFI.out.ok.wf (turnC_rel hr64 HCO.out) k)
          have HLR := Lib.hid (told_rel (N := N) (lane_closed m) HFI.out.ok.wf (laneC_rel hm64 HCO.out) k)
          rw [← MA.out] at HTR HLR
          rw [← MB.out] at HTR
          rw [← MC.out] at HLR
          have z11 := WC.out
          have Z11 := Lib.hid z11
          clear z11 WA WB WC KA KB KC GA GB GC FA FB FC LFa LFb LFc y5 y7 y9 SOA SOB SOC
          obtain ⟨oa, oc, ro, c4, hsb, hro⟩ := net_out P11.out.net
          have HSB := Lib.hid hsb
          have HRO := Lib.hid hro
          have HRL := Lib.hid (show ro.length = N.outb.length from by rw [← hro]; simp)
          have XL := Lib.hid X11.out.len
          have YL := Lib.hid Y11.out.len
          have ZL := Lib.hid Z11.out.len
          clear hsb hro
          obtain ⟨nO, hnO⟩ : ∃ nO, nO = N.outb.length := ⟨_, rfl⟩
          rw [← hnO] at c4 l4
          rw [← hnO] at X11 Y11 Z11 HRL XL YL ZL
          have HNO := Lib.hid hnO
          rw [← hnO]
          clear hnO
          go_wp2_with fail
          go_loopw [166] (fun v wx => ∃ q : Nat, q ≤ nO ∧ v = .int .i64 q ∧ Kept [] w11 wx) (fun v _ => nO - (intOf v).toNat)
          case atStart => exact ⟨0, Nat.zero_le _, rfl, .refl _ _⟩
          case round =>
            have C4 := Lib.hid c4
            clear c4
            obtain ⟨q, hq, rfl, hkq⟩ := hrel
            have KQ := Lib.hid hkq
            clear hkq
            by_cases hqn : q < nO
            · have hqx : q < xrs.length := by rw [XL.out]; exact hqn
              have hqy : q < yrs.length := by rw [YL.out]; exact hqn
              have hqz : q < zrs.length := by rw [ZL.out]; exact hqn
              have hqo : q < ro.length := by rw [HRL.out]; exact hqn
              obtain ⟨bx, xr, xrc, rfl, x1, x2⟩ := (X11.out.kept0 KQ.out).at q hqx
              obtain ⟨by1, yr, yrc, rfl, y1, y2⟩ := (Y11.out.kept0 KQ.out).at q hqy
              obtain ⟨bz, zr, zrc, rfl, z1, z2⟩ := (Z11.out.kept0 KQ.out).at q hqz
              obtain ⟨bo, rfl, o0, o1⟩ := (HSB.out.kept0 KQ.out) q hqo
              clear o0
              have c4 := KQ.out.cell C4.out (by simp)
              have HTQ := Lib.hid (rows_pick HTR.out hqx hqy)
              have HLQ := Lib.hid (rows_pick HLR.out hqx hqz)
              have lx : xrs[q].l.length = ro[q].b.lits.length := by
                have h1 := told_len (q := q) MA.out (by simp; omega) (by rw [← HNO.out]; exact hqn)
                have h2 : N.outb[q]'(by rw [← HNO.out]; exact hqn) = ro[q].b := by
                  have := List.getElem_of_eq HRO.out.symm (i := q) (by rw [← HNO.out]; exact hqn)
                  rw [this]; simp
                rw [h2] at h1
                simpa using h1
              have lt6 : xrs[q].l.length ≤ 1000000 := told_short HFI.out.ok k _ (by rw [← MA.out]; exact List.mem_map_of_mem (List.getElem_mem hqx))
              have ly := HTQ.out.length
              have lz := HLQ.out.length
              rw [← lx] at o1
              rw [← ly] at y1
              rw [← lz] at z1
              clear lx
              generalize xrs[q].l = xl at *
              generalize yrs[q].l = yl at *
              generalize zrs[q].l = zl at *
              generalize ro[q].a = oq at *
              generalize ro[q].c = oqc at *
              obtain ⟨ln, hln⟩ : ∃ ln, ln = xl.length := ⟨_, rfl⟩
              rw [← hln] at x1 y1 z1 o1 ly lz lt6
              have LX := Lib.hid hln
              have LY := Lib.hid ly
              have LZ := Lib.hid lz
              clear hln ly lz
              go_wp2_with fail
              go_quiet (fail)
              go_wp2_with fail
              obtain ⟨wB, rfl⟩ : ∃ v : World, v = wr := ⟨_, rfl⟩
              go_loopw [215] (fun v wy => ∃ j : Nat, j ≤ ln ∧ v = .int .i64 j ∧ Kept [] wB wy) (fun v _ => ln - (intOf v).toNat)
              case atStart => exact ⟨0, Nat.zero_le _, rfl, by first | exact (Kept.refl [] wB).drewN _ | exact (Kept.refl [] wB).drew | exact .refl _ _⟩
              case round =>
                obtain ⟨j, hj, rfl, hky⟩ := hrel
                have KY := Lib.hid hky
                clear hky
                by_cases hjl : j < ln
                · have X1 := KY.out.cell x1 (by simp)
                  have Y1 := KY.out.cell y1 (by simp)
                  have Z1 := KY.out.cell z1 (by simp)
                  obtain ⟨ax, rfl, vx⟩ := (x2.kept0 KY.out) j (by rw [← LX.out]; exact hjl)
                  obtain ⟨ay, rfl, vy⟩ := (y2.kept0 KY.out) j (by rw [← LY.out]; exact hjl)
                  obtain ⟨az, rfl, vz⟩ := (z2.kept0 KY.out) j (by rw [← LZ.out]; exact hjl)
                  have t1 := HTQ.out.get j (by rw [← LX.out]; exact hjl) (by rw [← LY.out]; exact hjl)
                  have t2 := HLQ.out.get j (by rw [← LX.out]; exact hjl) (by rw [← LZ.out]; exact hjl)
                  generalize xl[j] = gx at *
                  generalize yl[j] = gy at *
                  generalize zl[j] = gz at *
                  have HR4 := Lib.hid (fun W => HROT.out gx W t1.1)
                  rw [t1.2] at vy
                  obtain ⟨vr, hvr⟩ : ∃ vr, vr = rotW r gx := ⟨_, rfl⟩
                  rw [← hvr] at vy HR4
                  obtain ⟨mm, hmm⟩ : ∃ mm, mm = gx &&& one := ⟨_, rfl⟩
                  have E1 : bits .and .u64 (gx : Int) (one : Int) = (mm : Int) := by rw [hmm]; exact u64_and_nat _ _ t2.1 hone64
                  have E2 : bits .and .u64 (gz : Int) (one : Int) = (mm : Int) := by rw [hmm, HOP.out, t2.and, ← HOP.out]; exact u64_and_nat _ _ t2.2.1 hone64
                  clear hvr hmm t1 t2 x1 y1 z1 x2 y2 z2
                  go_wp2_with fail
                  go_quiet ((go_at_call 9; with_reducible exact q_same (HR4.out _)))
                  go_wp2_with fail
                  go_roundw
                  case rel => exact ⟨j + 1, by omega, by go_num, by first | exact (KY.out).drewN _ | exact (KY.out).drew | exact KY.out⟩
                  case measure => simp [intOf]; omega
                · obtain rfl : j = ln := by omega
                  go_wp2_with fail
                  go_roundw
                  case rel => exact ⟨q + 1, by omega, by go_num, KQ.out.trans KY.out⟩
                  case measure => simp [intOf]; omega
            · obtain rfl : q = nO := by omega
              go_wp2_with fail
              go_roundw
              case rel => exact ⟨k + 1, RA, RB, RC, by omega, by omega, by go_num, P11.out.keep KQ.out⟩
              case measure => simp [intOf]; omega
    · by_cases h1 : k < clen
      · have h2 : 20 ≤ k := by omega
        clear hlt
        go_wp2_with fail
        refine (tells8 _).mono ?_
        rintro e w6 ⟨rfl, hk6⟩
        go_wp2_with fail
        go_ret
        exact ⟨rfl, HP.out.kp.trans hk6⟩
      · clear hlt
        go_wp2_with fail
        refine (tells8 _).mono ?_
        rintro e w6 ⟨rfl, hk6⟩
        go_wp2_with fail
        go_ret
        exact ⟨rfl, HP.out.kp.trans hk6⟩
end Go.Proofs.YtielfgngdhcpfaaGreat
