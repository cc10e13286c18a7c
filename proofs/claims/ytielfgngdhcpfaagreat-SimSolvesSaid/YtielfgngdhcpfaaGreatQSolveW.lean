/-
  Law SimSolves: the walk.
-/
import Derived.Test.YtielfgngdhcpfaaGreatQSolveT
import Derived.Test.YtielfgngdhcpfaaGreatQSimAgain
import Derived.BigQuiet
import Derived.Deep.RegionHeld3
namespace Go.Proofs.YtielfgngdhcpfaaGreat
open Go.ChangeShapes Go.WideShapes Go.ChangeAt Go.RowKit
open Go.Maps (Keyed)
open Go.WideMaps
set_option linter.unusedVariables false
set_option linter.unusedSimpArgs false

variable {w w' w1 : World} {s p n k : Nat} {F R F' R' S : List Nat} {g : Gr} {N : Nt}
set_option maxHeartbeats 12800000 in
set_option maxRecDepth 100000 in
theorem sim_solves (o1 o2 : Bool) (sa : Option Addr) (sl : List NStp) (sc len : Nat) (ca : Option Addr) (cl : List WR) (cc clen : Nat) (w : World) (hlen : sl.length = len) (hss : SlNStepsC w sa sl) (hso : ∀ s ∈ sl, s.ok) (hcl : cl.length = clen) (hclm : clen ≤ 140737488351232) (hcs : SlW w ca cl) (hcw : ∀ r ∈ cl, Words r.l ∧ r.l.length ≤ 17592186043904) :
    Calls Tryz.prog 5 #[.agg #[.bool o1, .bool o2], .slice sa len sc, .slice ca clen cc] w (YesKept w) := by
  have HB := Lib.hid (fun (W : World) (hk : Kept [] w W) => built08 o1 o2 sa sl sc len W hlen (fun k hk' => by
    exact (hss.kept0 hk) k hk') hso)
  have HCS := Lib.hid hcs
  have HCW := Lib.hid hcw
  have HCL := Lib.hid hcl
  clear hlen hss hso hcs hcw hcl
  go_enter Tryz.func5, Tryz.ntmps5; (try simp only [List.append])
  go_wp2_with fail
  refine (HB.out _ ((Kept.refl [] w).alloc _)).mono ?_
  intro e w1 hx
  obtain ⟨n, NF, NR, qq, F2, R2, he, hx⟩ := hx
  subst he
  have hnet := hx.net
  have K1 := Lib.hid (((Kept.refl [] w).alloc (.cells #[.bool o1, .bool o2] 23)).trans hx.kept)
  have hfine := builtN_fine true o1 o2 sl 60
  have hchk := built_check o1 o2 sl 60
  generalize builtN true o1 o2 sl 60 = N at *
  have HN1 := Lib.hid hnet
  have HFI := Lib.hid hfine
  have HCK := Lib.hid hchk
  clear hx hnet hfine hchk HB
  have l1 := HFI.out.ok.len
  have l2 := HFI.out.ok.ik
  have l3 := HFI.out.ok.rk
  have l4 := HFI.out.ok.ok
  go_wp2_with fail
  refine (sim_new HN1.out HFI.out (by omega) HCK.out).mono ?_
  rintro e w2 ⟨s, F, R, rfl, hs, hk2, hf2⟩
  have HS2 := Lib.hid hs
  have K12 := Lib.hid hk2
  have FS2 := Lib.hid hf2
  clear hs hk2 hf2
  have LN := Lib.hid (show ∀ x ∈ NF ++ NR, x < w1.heap.size from fun x hx => (List.mem_append.1 hx).elim (HN1.out.lt.1 x) (HN1.out.lt.2 x))
  go_upto_region 7 with (fail)
  obtain ⟨wS, hwS⟩ : ∃ W, W = w2.alloc (.cells #[.pointer (some ⟨s, 0, none⟩)] 30) := ⟨_, rfl⟩
  obtain ⟨bs, hbs⟩ : ∃ b, b = w2.heap.size := ⟨_, rfl⟩
  have kS : Kept [] w2 wS := by rw [hwS]; exact (Kept.refl [] w2).alloc _
  have cb : wS.cell? ⟨bs, 0, none⟩ = some (.pointer (some ⟨s, 0, none⟩)) := by rw [hwS, hbs]; simp [World.cell?_alloc_new]
  rw [← hwS, ← hbs]
  have HBF := Lib.hid (show bs ∉ F from fun h => by have := HS2.out.lt.1 bs h; omega)
  have RA := Lib.hid (show RunAt w wS N (cl.map (·.l)) n NF NR s F R 0 none 0 0 [] from by
    have z1 := K1.out.size
    refine ⟨(HN1.out.kept0 K12.out).kept0 kS, HS2.out.kept0 kS, ORows.nil _ _, by simp, fun b hb => by have := FS2.out b (by simp [hb]); omega, fun b hb hx => ?_, (K1.out.trans K12.out).trans kS⟩
    have h1 := FS2.out b (by simp [hx])
    rcases List.mem_append.1 hb with hb | hb
    · have := LN.out b hb; omega
    · simp [ft, orBlocks] at hb)
  obtain ⟨C, hC⟩ : ∃ C, C = cl.map (·.l) := ⟨_, rfl⟩
  rw [← hC] at RA
  have HC := Lib.hid hC
  have HCO := Lib.hid (show ∀ l ∈ C, Words l from fun l hl => by rw [hC] at hl; obtain ⟨y, hy, rfl⟩ := List.mem_map.1 hl; exact (HCW.out y hy).1)
  have CB := Lib.hid cb
  clear hC hwS hbs kS HN1 HS2 K1 K12 FS2 LN
  obtain ⟨p, ia, ic, ra, rc, oa, oc, ri, ro, hnp⟩ := net_parts RA.out.net
  have HNP := Lib.hid hnp
  have c3 := hnp.c3
  clear hnp
  go_wp2_with fail
  go_loopw [61] (fun v wr => ∃ k : Nat, k ≤ N.regs.length ∧ v = .int .i64 k ∧ Kept [] wS wr) (fun v _ => N.regs.length - (intOf v).toNat)
  case atStart => exact ⟨0, Nat.zero_le _, rfl, .refl _ _⟩
  case round =>
    clear c3
    obtain ⟨k, hk, rfl, hkr⟩ := hrel
    have KR := Lib.hid hkr
    clear hkr cb
    by_cases hlt : k < N.regs.length
    · as_aux_lemma =>
        obtain ⟨rb, rfl, r0, r1, r2, r3⟩ := (HNP.out.kept0 KR.out).rb k hlt
        have hrv := reset_get (N := N) hlt (by simpa [resetN] using hlt)
        generalize N.regs[k].q = xq at *
        generalize N.regs[k].d = xd at *
        generalize N.regs[k].en = xe at *
        generalize N.regs[k].init = xi at *
        have HRV := Lib.hid hrv
        clear hrv
        have cb := KR.out.cell CB.out (by simp)
        have cb' := fun o => cell_alloc cb o
        obtain ⟨wb, hwb⟩ : ∃ W, W = wr.alloc (.cells #[.int .u32 (xq : Int), .int .u32 (xd : Int), .int .u32 (xe : Int), .bool xi] 61) := ⟨_, rfl⟩
        obtain ⟨br, hbr⟩ : ∃ b, b = wr.heap.size := ⟨_, rfl⟩
        have KB := Lib.hid (show Kept [] wr wb from by rw [hwb]; exact (Kept.refl [] wr).alloc _)
        have HBB := Lib.hid (show wb.heap[br]? = some (.cells #[.int .u32 (xq : Int), .int .u32 (xd : Int), .int .u32 (xe : Int), .bool xi] 61 (0, 0)) from by rw [hwb, hbr]; exact heap_alloc_new wr _)
        have HWB := Lib.hid hwb
        have HBR := Lib.hid hbr
        clear hwb hbr
        go_wp2_with fail
        rw [← HWB.out, ← HBR.out]
        have HSR := Lib.hid (sim_regs ((RA.out.sa.kept0 KR.out).kept0 KB.out) (by show (resetN N).length ≤ _; simp [resetN]; omega))
        refine HSR.out.mono ?_
        rintro e w5 ⟨qa, qc, rfl, hown, hst⟩
        have hll : (sgs N C 0).regs.length = N.regs.length := by show (resetN N).length = _; simp [resetN]
        rw [hll] at hown ⊢
        clear hll
        have K5 := Lib.hid ((KR.out.trans KB.out).trans hst.kept)
        have e3 : w5.cell? ⟨br, 3, none⟩ = some (.bool xi) := blk_cell (hst.kept.heap HBB.out (by simp)) 3
        obtain ⟨ad, rfl, hv⟩ := hown.sln k (by show k < (resetN N).length; simp [resetN]; exact hlt)
        have hv' : w5.cell? (ad.add k) = some (.int .u64 (((if xi then 18446744073709551615 else 0 : Nat) : Nat) : Int)) := by
          rw [hv]
          exact congrArg (fun (z : Nat) => some (Value.int .u64 (z : Int))) HRV.out
        clear hv hown hst HSR HBB HWB KB cb cb' r0 r1 r2 r3
        cases xi with
        | true =>
          have hv2 : w5.cell? (ad.add k) = some (.int .u64 18446744073709551615) := hv'
          clear hv'
          go_wp2_with fail
          go_roundw
          case rel => exact ⟨k + 1, by omega, by go_num, K5.out⟩
          case measure => simp [intOf]; omega
        | false =>
          have hv2 : w5.cell? (ad.add k) = some (.int .u64 0) := hv'
          clear hv'
          go_wp2_with fail
          go_roundw
          case rel => exact ⟨k + 1, by omega, by go_num, K5.out⟩
          case measure => simp [intOf]; omega
    · obtain rfl : k = N.regs.length := by omega
      have RB := Lib.hid (RA.out.keep KR.out)
      have CBR := Lib.hid (KR.out.cell CB.out (by simp))
      clear RA HNP CB
      go_wp2_with fail
      go_loopw [15] (fun v wr => ∃ (i : Nat) (R : List Nat), i ≤ clen ∧ i ≤ 20 ∧ v = .int .i64 i ∧ RunAt w wr N C n NF NR s F R i none 0 0 [] ∧ wr.cell? ⟨bs, 0, none⟩ = some (.pointer (some ⟨s, 0, none⟩))) (fun v _ => 20 - (intOf v).toNat)
      case atStart => exact ⟨0, R, Nat.zero_le _, by omega, rfl, RB.out, CBR.out⟩
      case round =>
        clear RB CBR KR
        obtain ⟨i, R, hi, hi20, rfl, hra, cb⟩ := hrel
        have RA := Lib.hid hra
        clear hra
        by_cases hlt2 : i < clen ∧ i < 20
        · obtain ⟨hlt1, hlt2⟩ := hlt2
          have hkl : i < cl.length := by rw [HCL.out]; exact hlt1
          obtain ⟨qb, qo, e8, x1, x2⟩ := (HCS.out.kept0 RA.out.kp) i hkl
          subst e8
          have X1 := Lib.hid x1
          have X2 := Lib.hid x2
          clear x1 x2
          have hw1 := (HCW.out _ (List.getElem_mem hkl))
          have HCG := Lib.hid (show cyc N C i = givenN N.inb cl[i].l 0 from by unfold cyc; rw [show C.getD i [] = cl[i].l from by rw [HC.out, List.getD_eq_getElem?_getD, List.getElem?_map, List.getElem?_eq_getElem hkl]; rfl])
          have HCY := Lib.hid (sgs_cy N C i)
          have HSN := Lib.hid (sgs_N N C i)
          have SO := Lib.hid (sgs_ok HFI.out (by omega) HCO.out i)
          have SO2 := Lib.hid (sgs_ok HFI.out (by omega) HCO.out (i + 1))
          have hrl : (sgs N C i).regs.length = N.regs.length := by have := SO.out.rl; rw [HSN.out] at this; exact this
          have HRL := Lib.hid hrl
          clear hrl
          go_wp2_with fail
          refine (sim_regs RA.out.sa (by rw [HRL.out]; omega)).mono ?_
          rintro e w5 ⟨wasA, wasC, rfl, hown, hst⟩
          rw [HRL.out] at hown ⊢
          have WAS := Lib.hid hown
          have K5 := Lib.hid hst.kept
          have FW := Lib.hid hst.fresh
          have x15 := K5.out.cell X1.out (by simp)
          have cb5 := K5.out.cell cb (by simp)
          clear hown hst cb
          go_wp2_with fail
          refine (given_c (RA.out.net.kept0 K5.out) (by omega) (fun b hb => by have := HFI.out.ok.il b hb; omega) cl[i].a cl[i].c cl[i].l.length cl[i].l rfl (by have := hw1.2; omega) (X2.out.kept0 K5.out) 0 (by omega)).mono ?_
          rintro e w6 ⟨ga, gn, gc, grs, rfl, hg, hgm, hgk, hgf⟩
          have hgn : gn = N.inb.length := by have h1 := hg.len; have h2 := congrArg List.length hgm; have h3 := fitB_len (given_fits N.inb cl[i].l); simp at h2; omega
          subst hgn
          have HG := Lib.hid hg
          have HGM := Lib.hid hgm
          have K6 := Lib.hid (K5.out.trans hgk)
          have FG := Lib.hid hgf
          have HFT := Lib.hid (given_fits N.inb cl[i].l)
          have HWO := Lib.hid (given_words (b := N.inb) hw1.1 0)
          have cb6 := hgk.cell cb5 (by simp)
          have WAS6 := Lib.hid (WAS.out.kept0 hgk)
          have Z6 := Lib.hid hgk.size
          clear hg hgm hgk hgf x15 cb5 WAS
          have HST := Lib.hid (sim_step (RA.out.sa.kept0 K6.out) SO.out (by rw [HCY.out]; omega) (by omega) HG.out (fun r hr => HWO.out _ (by rw [← HGM.out]; exact List.mem_map_of_mem hr)) (by rw [HGM.out, HSN.out]; exact HFT.out))
          rw [HGM.out, ← HCG.out] at HST
          go_wp2_with fail
          refine HST.out.mono ?_
          intro e w8 hx
          obtain ⟨xa, xc, xrs, R8, he, hrows, hmap, hsim, hst, hfr⟩ := hx
          rw [HSN.out] at he hrows hmap
          subst he
          have LF := Lib.hid (show ∀ b ∈ F, b < wr.heap.size from fun b hb => RA.out.sa.lt.1 b hb)
          have R8' := Lib.hid ((RA.out.keep K6.out).step (i' := i + 1) hsim hst)
          have KS := Lib.hid hst.st.kept
          have X8 := Lib.hid (show WRows w8 xa N.outb.length xc xrs from hrows)
          have M8 := Lib.hid (show xrs.map (·.l) = told N C i from hmap)
          have G8 := Lib.hid (show WRows w8 ga N.inb.length gc grs from HG.out.kept KS.out (fun b hb hx => by have h1 := FG.out b (by simp [hb]); have h2 := LF.out b hx; have h3 := K5.out.size; omega) (fun b hb hx => by have h1 := FG.out b (by simp [hb]); have h2 := LF.out b hx; have h3 := K5.out.size; omega))
          have W8 := Lib.hid (show Own w8 34 wasA N.regs.length wasC (nats .u64 (sgs N C i).regs) from WAS6.out.kept KS.out (fun b hb hx => by
            have h2 := LF.out b hx
            rcases FW.out b hb with h | h
            · simp at h
            · omega))
          have cb8 := KS.out.cell cb6 (by intro h; exact HBF.out h)
          clear hrows hmap hsim hst hfr HST HG HWO FG FW WAS6 Z6 cb6 K5 K6 KS LF
          have HCY2 := Lib.hid (sgs_cy N C (i + 1))
          have HSN2 := Lib.hid (sgs_N N C (i + 1))
          obtain ⟨WS, hWS⟩ : ∃ WS, WS = (sgs N C (i + 1)).ws := ⟨_, rfl⟩
          have HWS := Lib.hid (show WS = wordsN N (cyc N C i) (sgs N C i).regs from by rw [hWS]; simp [sgs, nextS, HSN.out])
          have WSW := Lib.hid (show Words WS from by rw [hWS]; exact SO2.out.ww)
          have HWD := Lib.hid (fun (W : World) (hk : Kept [] w8 W) (x : Nat) (hx : N.g.ok x) => by
            have h := word_c x bs (R8'.out.sa.kept0 hk) SO2.out (by rw [HCY2.out]; omega) (by rw [HSN2.out]; exact hx) (hk.cell cb8 (by simp))
            rewrite [← hWS] at h
            exact h)
          have HWV := Lib.hid (fun (x v : Nat) (hv : wd WS x = v) (hx : N.g.ok x) (W : World) (hk : Kept [] w8 W) => show Calls Tryz.prog 20 #[.int .u32 (x : Int), .pointer (some ⟨bs, 0, none⟩)] W (fun e w' => e = .returned (.int .u64 (v : Int)) ∧ Kept [] W w') from by subst hv; exact HWD.out W hk x hx)
          clear hWS
          obtain ⟨p, ia, ic, ra, rc, oa, oc, ri, ro, hnp⟩ := net_parts R8'.out.net
          have HNP := Lib.hid hnp
          have c4 := hnp.c4
          have HPOS := Lib.hid HFI.out.ok.wf.pos
          clear hnp
          go_wp2_with fail
          refine (sim_cycles R8'.out.sa).mono ?_
          rintro e w9 ⟨rfl, rfl⟩
          rw [HCY2.out]
          go_wp2_with fail
          refine (HWD.out _ (Kept.refl _ _) 0 (by show 0 / 2 < _; have := HPOS.out; omega)).mono ?_
          rintro e w9 ⟨rfl, k9⟩
          rw [wd_zero]
          go_wp2_with fail
          refine (HWD.out _ k9 1 (by show 1 / 2 < _; have := HPOS.out; omega)).mono ?_
          rintro e w10 ⟨rfl, k10⟩
          rw [wd_one]
          have K10 := Lib.hid (k9.trans k10)
          have CB8 := Lib.hid cb8
          clear k9 k10 c4 cb8
          go_wp2_with fail
          have HPO := HPOS.out
          go_loopw [20] (fun v wr => ∃ k : Nat, 1 ≤ k ∧ k ≤ N.g.nodes.length ∧ v = .int .i64 k ∧ Kept [] w8 wr) (fun v _ => N.g.nodes.length - (intOf v).toNat)
          case atStart => exact ⟨1, by omega, by have := HPOS.out; omega, rfl, K10.out⟩
          case round =>
            clear K10 HPO
            obtain ⟨k, hk1, hk, rfl, hkr⟩ := hrel
            have KR := Lib.hid hkr
            clear hkr
            have c0 := (HNP.out.kept0 KR.out).c0
            obtain ⟨G, hgr⟩ := (HNP.out.kept0 KR.out).gr
            have HGR := Lib.hid hgr
            clear hgr
            by_cases hlt3 : k < N.g.nodes.length
            · as_aux_lemma =>
                obtain ⟨x2, hx2⟩ : ∃ x2, x2 = 2 * k := ⟨_, rfl⟩
                have hx2b : x2 < 4294967296 := by omega
                have HOV := Lib.hid (show ofV (k : Int) false = x2 from by unfold ofV; rw [if_pos (by omega), hx2]; simp [ifL])
                have HOE := Lib.hid (show ofE (k : Int) = 0 from by unfold ofE; rw [if_pos (by omega)])
                obtain ⟨vx, hvx⟩ : ∃ vx, vx = wd WS x2 := ⟨_, rfl⟩
                obtain ⟨x3, hx3⟩ : ∃ x3, x3 = ntL x2 := ⟨_, rfl⟩
                have HNX := Lib.hid hx3.symm
                have hx3b : x3 = 2 * k + 1 := by rw [hx3, hx2]; unfold ntL; simp; try omega
                have hv3 : wd WS x3 = noW vx := by rw [hx3, hvx]; exact wd_ntL WSW.out x2
                have hvx64 : vx < 18446744073709551616 := by rw [hvx]; exact wd_lt WSW.out x2
                have HWX := Lib.hid (HWV.out x2 vx hvx.symm (by show x2 / 2 < _; omega))
                obtain ⟨vn, hvn⟩ : ∃ vn, vn = noW vx := ⟨_, rfl⟩
                have HWN := Lib.hid (HWV.out x3 vn (by rw [hv3, hvn]) (by show x3 / 2 < _; omega))
                have ENOT : nwI (vx : Int) = (vn : Int) := by rw [hvn]; exact nwI_nat vx hvx64
                obtain ⟨⟨a, b⟩, hab⟩ : ∃ y, N.g.nodes[k]? = some y := ⟨_, List.getElem?_eq_getElem hlt3⟩
                have hgv := fun (hg : a / 2 ≠ k) => gate_word HFI.out.ok.wf (inpN N (cyc N C i) (sgs N C i).regs) hk1 hab hg
                have hgA : gateA N.g (k : Int) = if a / 2 = k then (0, 0, false) else (a, b, true) := by
                  unfold gateA
                  rw [if_pos (by omega)]
                  simp [hab]
                have HGV := Lib.hid (fun hg => show vx = wd WS a &&& wd WS b from by
                  have := hgv hg
                  rw [hvx, hx2, HWS.out]
                  exact this)
                have HEA := Lib.hid (HFI.out.ok.wf.each k a b hab)
                have HGA := Lib.hid hgA
                clear hx2 hvx hx3 hx3b hv3 hvn hab hgv hgA
                go_wp2_with fail
                refine (aig_nodes HGR.out (by omega)).mono ?_
                rintro e w12 ⟨rfl, rfl⟩
                go_wp2_with fail
                refine (lit_of (k : Int) false _).mono ?_
                rintro e w12 ⟨rfl, rfl⟩
                rw [HOV.out, HOE.out]
                have HGT := Lib.hid (aig_gateOf HGR.out (by omega) (k : Int) (by omega) (by omega))
                rw [HGA.out] at HGT
                by_cases hg : a / 2 = k
                · rw [if_pos hg] at HGT
                  clear HGV HEA hg
                  go_wp2_with fail
                  refine HGT.out.mono ?_
                  rintro e w12 ⟨rfl, k12⟩
                  have K12 := Lib.hid (KR.out.trans k12)
                  clear k12
                  go_wp2_with fail
                  refine (lit_not x2 _ hx2b).mono ?_
                  rintro e w18 ⟨rfl, rfl⟩
                  rw [HNX.out]
                  go_wp2_with fail
                  refine (HWN.out _ K12.out).mono ?_
                  rintro e w19 ⟨rfl, k19⟩
                  have K19 := Lib.hid ((K12.out).trans k19)
                  go_wp2_with fail
                  refine (HWX.out _ K19.out).mono ?_
                  rintro e w20 ⟨rfl, k20⟩
                  have K20 := Lib.hid (K19.out.trans k20)
                  go_wp2_with fail
                  go_roundw
                  case rel => exact ⟨k + 1, by omega, by omega, by go_num, K20.out⟩
                  case measure => simp [intOf]; omega
                · rw [if_neg hg] at HGT
                  have hEA : a / 2 < k ∧ b / 2 < k := by
                    rcases HEA.out with h | h
                    · omega
                    · omega
                  have hva := HGV.out hg
                  obtain ⟨va, hva'⟩ : ∃ va, va = wd WS a := ⟨_, rfl⟩
                  obtain ⟨vb, hvb'⟩ : ∃ vb, vb = wd WS b := ⟨_, rfl⟩
                  have hla : va < 18446744073709551616 := by rw [hva']; exact wd_lt WSW.out a
                  have hlb : vb < 18446744073709551616 := by rw [hvb']; exact wd_lt WSW.out b
                  have EAND : bits .and .u64 (va : Int) (vb : Int) = (vx : Int) := by rw [hva, ← hva', ← hvb']; exact u64_and_nat _ _ hla hlb
                  have HWA := Lib.hid (HWV.out a va hva'.symm (by show a / 2 < _; omega))
                  have HWB := Lib.hid (HWV.out b vb hvb'.symm (by show b / 2 < _; omega))
                  clear HGV HEA hg hva hva' hvb' hEA
                  go_wp2_with fail
                  refine HGT.out.mono ?_
                  rintro e w12 ⟨rfl, k12⟩
                  have K12 := Lib.hid (KR.out.trans k12)
                  clear k12
                  go_wp2_with fail
                  refine (HWX.out _ K12.out).mono ?_
                  rintro e w13 ⟨rfl, k13⟩
                  have K13 := Lib.hid (K12.out.trans k13)
                  go_wp2_with fail
                  refine (HWA.out _ K13.out).mono ?_
                  rintro e w14 ⟨rfl, k14⟩
                  have K14 := Lib.hid (K13.out.trans k14)
                  go_wp2_with fail
                  refine (HWB.out _ K14.out).mono ?_
                  rintro e w15 ⟨rfl, k15⟩
                  have K15 := Lib.hid (K14.out.trans k15)
                  go_wp2_with fail
                  refine (lit_not x2 _ hx2b).mono ?_
                  rintro e w18 ⟨rfl, rfl⟩
                  rw [HNX.out]
                  go_wp2_with fail
                  refine (HWN.out _ K15.out).mono ?_
                  rintro e w19 ⟨rfl, k19⟩
                  have K19 := Lib.hid ((K15.out).trans k19)
                  go_wp2_with fail
                  refine (HWX.out _ K19.out).mono ?_
                  rintro e w20 ⟨rfl, k20⟩
                  have K20 := Lib.hid (K19.out.trans k20)
                  go_wp2_with fail
                  go_roundw
                  case rel => exact ⟨k + 1, by omega, by omega, by go_num, K20.out⟩
                  case measure => simp [intOf]; omega
            · obtain rfl : k = N.g.nodes.length := by omega
              go_wp2_with fail
              refine (aig_nodes HGR.out (by omega)).mono ?_
              rintro e w12 ⟨rfl, rfl⟩
              have c2 := (HNP.out.kept0 KR.out).c2
              clear hlt3 HGR c0
              go_wp2_with fail
              go_loopw [204] (fun v wr => ∃ q : Nat, q ≤ N.inb.length ∧ v = .int .i64 q ∧ Kept [] w8 wr) (fun v _ => N.inb.length - (intOf v).toNat)
              case atStart => exact ⟨0, Nat.zero_le _, rfl, KR.out⟩
              case round =>
                clear KR c2
                obtain ⟨q, hq, rfl, hkr⟩ := hrel
                have KR := Lib.hid hkr
                clear hkr
                by_cases hlt4 : q < N.inb.length
                · as_aux_lemma =>
                    have hqr : q < ri.length := by have := congrArg List.length HNP.out.im; simp at this; omega
                    have hqg : q < grs.length := by rw [G8.out.len]; exact hlt4
                    obtain ⟨hgl, hbv⟩ := in_rows (ri := ri) (grs := grs) HWS.out HFI.out (by rw [HCG.out]; exact HFT.out) HRL.out (by rw [HGM.out, HCG.out]) HNP.out.im hqr hqg
                    have hok := HFI.out.ok.il _ (show ri[q].b ∈ _ from by rw [← HNP.out.im]; exact List.mem_map_of_mem (List.getElem_mem hqr))
                    have HLS := Lib.hid ((HNP.out.kept0 KR.out).ir _ (List.getElem_mem hqr))
                    obtain ⟨bb, rfl, b0, b1⟩ := (HNP.out.kept0 KR.out).ib q hqr
                    obtain ⟨bg, gra, grc, rfl, g1, g2⟩ := (G8.out.kept0 KR.out).spot q hqg
                    have HBV := Lib.hid hbv
                    have HOKX := Lib.hid hok.2.2.2
                    have hl64 := hok.2.1
                    have HG2 := Lib.hid g2
                    rw [hgl] at g1
                    have HGL := Lib.hid hgl
                    clear hbv hok g2 hgl
                    generalize ri[q].b.name = nm at *
                    generalize ri[q].a = ba at *
                    generalize ri[q].c = bc at *
                    generalize ri[q].b.lits = L at *
                    generalize grs[q].l = gl at *
                    obtain ⟨ln, hln⟩ : ∃ ln, ln = L.length := ⟨_, rfl⟩
                    rw [← hln] at b1 g1 hl64 HGL
                    have HLN := Lib.hid hln
                    clear hln
                    have G1 := Lib.hid g1
                    clear g1
                    go_wp2_with fail
                    obtain ⟨wB, hwB⟩ : ∃ W, W = wr.alloc (.cells #[.string nm, .slice ba ln bc] 47) := ⟨_, rfl⟩
                    rw [← hwB]
                    have KB := Lib.hid (show Kept [] wr wB from by rw [hwB]; exact (Kept.refl [] wr).alloc _)
                    clear hwB b0 b1
                    have K8W := Lib.hid (KR.out.trans KB.out)
                    go_loopw [212] (fun v wy => ∃ j : Nat, j ≤ ln ∧ v = .int .i64 j ∧ Kept [] wB wy) (fun v _ => ln - (intOf v).toNat)
                    case atStart => exact ⟨0, Nat.zero_le _, rfl, .refl _ _⟩
                    case round =>
                      obtain ⟨j, hj, rfl, hky⟩ := hrel
                      have KY := Lib.hid hky
                      clear hky
                      obtain ⟨wY, rfl⟩ : ∃ v : World, v = wr := ⟨_, rfl⟩
                      have KBY := Lib.hid (KB.out.trans KY.out)
                      have K8B := Lib.hid (K8W.out.trans KY.out)
                      by_cases hjl : j < ln
                      · have hj1 : j < L.length := by rw [← HLN.out]; exact hjl
                        have hj2 : j < gl.length := by rw [HGL.out]; exact hjl
                        obtain ⟨ad, rfl, lx⟩ := (HLS.out.kept0 KBY.out) j hj1
                        obtain ⟨ag, rfl, gx⟩ := (HG2.out.kept0 KBY.out) j hj2
                        have g1 := KBY.out.cell G1.out (by simp)
                        have HX := Lib.hid (HWV.out L[j] gl[j] (HBV.out j hj1 hj2) (HOKX.out _ (List.getElem_mem hj1)))
                        generalize L[j] = x at *
                        generalize gl[j] = v at *
                        have KA := Kept.refl [] wY
                        have hge : decide ((ln : Int) ≤ (j : Int)) = false := by simp; omega
                        have hge3 : decide (ln ≤ j) = false := by simp; omega
                        go_wp2_with fail
                        go_region_held3 (fun W => W.cell? ⟨bg, q, none⟩ = some (.slice (some ag) ln grc) ∧ W.cell? (ag.add j) = some (.int .u64 (v : Int)))
                          (first | exact ⟨Kept.cell (F := []) (w := wY) (by (repeat (first | with_reducible exact KA | with_reducible apply Kept.drew | with_reducible apply Kept.drewN | with_reducible apply Kept.alloc))) g1 (by simp), Kept.cell (F := []) (w := wY) (by (repeat (first | with_reducible exact KA | with_reducible apply Kept.drew | with_reducible apply Kept.drewN | with_reducible apply Kept.alloc))) gx (by simp)⟩ | go_keep)
                          (first | (go_at_call 20; (with_reducible refine (HX.out _ ?kk).mono ?_); (case kk => exact K8B.out.trans (by (repeat (first | with_reducible exact KA | with_reducible apply Kept.drew | with_reducible apply Kept.drewN | with_reducible apply Kept.alloc)))); rintro e w5 ⟨rfl, k5⟩; have KA := (show Kept [] wY _ from (by (repeat (first | with_reducible exact KA | with_reducible apply Kept.drew | with_reducible apply Kept.drewN | with_reducible apply Kept.alloc)))).trans k5))
                        all_goals
                          go_wp2_with fail
                          go_roundw
                          case rel => exact ⟨j + 1, by omega, by go_num, KY.out.trans KA⟩
                          case measure => simp [intOf]; omega
                      · obtain rfl : j = ln := by omega
                        go_wp2_with fail
                        go_roundw
                        case rel => exact ⟨q + 1, by omega, by go_num, K8B.out⟩
                        case measure => simp [intOf]; omega
                · obtain rfl : q = N.inb.length := by omega
                  have c4 := (HNP.out.kept0 KR.out).c4
                  go_wp2_with fail
                  go_loopw [235] (fun v wr => ∃ q : Nat, q ≤ N.outb.length ∧ v = .int .i64 q ∧ Kept [] w8 wr) (fun v _ => N.outb.length - (intOf v).toNat)
                  case atStart => exact ⟨0, Nat.zero_le _, rfl, KR.out⟩
                  case round =>
                    clear KR c4
                    obtain ⟨q, hq, rfl, hkr⟩ := hrel
                    have KR := Lib.hid hkr
                    clear hkr
                    by_cases hlt4 : q < N.outb.length
                    · as_aux_lemma =>
                        have hqr : q < ro.length := by have := congrArg List.length HNP.out.om; simp at this; omega
                        have hqg : q < xrs.length := by rw [X8.out.len]; exact hlt4
                        obtain ⟨hgl, hbv⟩ := out_rows (ro := ro) (xrs := xrs) (show _ = outN N WS from by rw [M8.out, HWS.out]; rfl) HNP.out.om hqr hqg
                        have hok := HFI.out.ok.ol _ (show ro[q].b ∈ _ from by rw [← HNP.out.om]; exact List.mem_map_of_mem (List.getElem_mem hqr))
                        have HLS := Lib.hid ((HNP.out.kept0 KR.out).or _ (List.getElem_mem hqr))
                        obtain ⟨bb, rfl, b0, b1⟩ := (HNP.out.kept0 KR.out).ob q hqr
                        obtain ⟨bg, gra, grc, rfl, g1, g2⟩ := (X8.out.kept0 KR.out).spot q hqg
                        have HBV := Lib.hid hbv
                        have HOKX := Lib.hid hok.2.2.2
                        have hl64 := hok.2.1
                        have HG2 := Lib.hid g2
                        rw [hgl] at g1
                        have HGL := Lib.hid hgl
                        clear hbv hok g2 hgl
                        generalize ro[q].b.name = nm at *
                        generalize ro[q].a = ba at *
                        generalize ro[q].c = bc at *
                        generalize ro[q].b.lits = L at *
                        generalize xrs[q].l = gl at *
                        obtain ⟨ln, hln⟩ : ∃ ln, ln = L.length := ⟨_, rfl⟩
                        rw [← hln] at b1 g1 hl64 HGL
                        have HLN := Lib.hid hln
                        clear hln
                        have G1 := Lib.hid g1
                        clear g1
                        go_wp2_with fail
                        obtain ⟨wB, hwB⟩ : ∃ W, W = wr.alloc (.cells #[.string nm, .slice ba ln bc] 47) := ⟨_, rfl⟩
                        rw [← hwB]
                        have KB := Lib.hid (show Kept [] wr wB from by rw [hwB]; exact (Kept.refl [] wr).alloc _)
                        clear hwB b0 b1
                        have K8W := Lib.hid (KR.out.trans KB.out)
                        go_loopw [243] (fun v wy => ∃ j : Nat, j ≤ ln ∧ v = .int .i64 j ∧ Kept [] wB wy) (fun v _ => ln - (intOf v).toNat)
                        case atStart => exact ⟨0, Nat.zero_le _, rfl, .refl _ _⟩
                        case round =>
                          obtain ⟨j, hj, rfl, hky⟩ := hrel
                          have KY := Lib.hid hky
                          clear hky
                          obtain ⟨wY, rfl⟩ : ∃ v : World, v = wr := ⟨_, rfl⟩
                          have KBY := Lib.hid (KB.out.trans KY.out)
                          have K8B := Lib.hid (K8W.out.trans KY.out)
                          by_cases hjl : j < ln
                          · have hj1 : j < L.length := by rw [← HLN.out]; exact hjl
                            have hj2 : j < gl.length := by rw [HGL.out]; exact hjl
                            obtain ⟨ad, rfl, lx⟩ := (HLS.out.kept0 KBY.out) j hj1
                            obtain ⟨ag, rfl, gx⟩ := (HG2.out.kept0 KBY.out) j hj2
                            have g1 := KBY.out.cell G1.out (by simp)
                            have HX := Lib.hid (HWV.out L[j] gl[j] (HBV.out j hj1 hj2) (HOKX.out _ (List.getElem_mem hj1)))
                            generalize L[j] = x at *
                            generalize gl[j] = v at *
                            have KA := Kept.refl [] wY
                            have hge : decide ((ln : Int) ≤ (j : Int)) = false := by simp; omega
                            have hge3 : decide (ln ≤ j) = false := by simp; omega
                            go_wp2_with fail
                            go_region_held3 (fun W => W.cell? ⟨bg, q, none⟩ = some (.slice (some ag) ln grc) ∧ W.cell? (ag.add j) = some (.int .u64 (v : Int)))
                              (first | exact ⟨Kept.cell (F := []) (w := wY) (by (repeat (first | with_reducible exact KA | with_reducible apply Kept.drew | with_reducible apply Kept.drewN | with_reducible apply Kept.alloc))) g1 (by simp), Kept.cell (F := []) (w := wY) (by (repeat (first | with_reducible exact KA | with_reducible apply Kept.drew | with_reducible apply Kept.drewN | with_reducible apply Kept.alloc))) gx (by simp)⟩ | go_keep)
                              (first | (go_at_call 20; (with_reducible refine (HX.out _ ?kk).mono ?_); (case kk => exact K8B.out.trans (by (repeat (first | with_reducible exact KA | with_reducible apply Kept.drew | with_reducible apply Kept.drewN | with_reducible apply Kept.alloc)))); rintro e w5 ⟨rfl, k5⟩; have KA := (show Kept [] wY _ from (by (repeat (first | with_reducible exact KA | with_reducible apply Kept.drew | with_reducible apply Kept.drewN | with_reducible apply Kept.alloc)))).trans k5))
                            all_goals
                              go_wp2_with fail
                              go_roundw
                              case rel => exact ⟨j + 1, by omega, by go_num, KY.out.trans KA⟩
                              case measure => simp [intOf]; omega
                          · obtain rfl : j = ln := by omega
                            go_wp2_with fail
                            go_roundw
                            case rel => exact ⟨q + 1, by omega, by go_num, K8B.out⟩
                            case measure => simp [intOf]; omega
                    · obtain rfl : q = N.outb.length := by omega
                      have cbz := KR.out.cell CB8.out (by simp)
                      go_wp2_with fail
                      refine (sim_regs (R8'.out.sa.kept0 KR.out) (by have h := SO2.out.rl; rw [HSN2.out] at h; rw [h]; omega)).mono ?_
                      rintro e w20 ⟨nowA, nowC, rfl, hown, hst⟩
                      have hrl2 : (sgs N C (i + 1)).regs.length = N.regs.length := by have h := SO2.out.rl; rw [HSN2.out] at h; exact h
                      rw [hrl2] at hown ⊢
                      have NOW := Lib.hid hown
                      have KN := Lib.hid (KR.out.trans hst.kept)
                      clear hown hst cbz
                      have HRL2 := Lib.hid hrl2
                      clear hrl2
                      have c3 := (HNP.out.kept0 KN.out).c3
                      go_wp2_with fail
                      go_loopw [277] (fun v wr => ∃ q : Nat, q ≤ N.regs.length ∧ v = .int .i64 q ∧ Kept [] w20 wr) (fun v _ => N.regs.length - (intOf v).toNat)
                      case atStart => exact ⟨0, Nat.zero_le _, rfl, .refl _ _⟩
                      case round =>
                        clear KR c3
                        obtain ⟨q, hq, rfl, hkr⟩ := hrel
                        have KR := Lib.hid hkr
                        clear hkr
                        by_cases hlt4 : q < N.regs.length
                        · as_aux_lemma =>
                            have K8R := Lib.hid (KN.out.trans KR.out)
                            obtain ⟨rb, rfl, r0, r1, r2, r3⟩ := (HNP.out.kept0 K8R.out).rb q hlt4
                            have h1 : q < (sgs N C i).regs.length := by rw [HRL.out]; exact hlt4
                            have h2 : q < (sgs N C (i + 1)).regs.length := by rw [HRL2.out]; exact hlt4
                            have hok := HFI.out.ok.rl _ (List.getElem_mem hlt4)
                            have hv1 : wd WS N.regs[q].q = (sgs N C i).regs[q] := by
                              have h := reg_val (inp := cyc N C i) HFI.out (by rw [HCG.out]; exact HFT.out) HRL.out hlt4 h1
                              rw [← HWS.out] at h
                              exact h
                            have hnx : (sgs N C (i + 1)).regs = nextN N WS (sgs N C i).regs := by rw [HWS.out]; simp [sgs, nextS, HSN.out]
                            have hv2 : (sgs N C (i + 1)).regs[q] = nextR WS N.regs[q] (sgs N C i).regs[q] := by
                              have h3 := List.getElem_of_eq hnx h2
                              rw [h3]
                              exact next_get hlt4 h1 _
                            have hw64 : (sgs N C i).regs[q] < 18446744073709551616 := SO.out.rw _ (List.getElem_mem h1)
                            obtain ⟨aw, hawe, waw⟩ := (W8.out.sln.kept0 K8R.out) q h1
                            obtain ⟨an, hane, naw⟩ := (NOW.out.sln.kept0 KR.out) q h2
                            subst hawe hane
                            unfold nextR at hv2
                            generalize (sgs N C i).regs[q] = wk at *
                            generalize (sgs N C (i + 1)).regs[q] = nk at *
                            generalize N.regs[q].q = xq at *
                            generalize N.regs[q].d = xd at *
                            generalize N.regs[q].en = xe at *
                            generalize N.regs[q].init = xi at *
                            obtain ⟨vd, hvd⟩ : ∃ vd, vd = wd WS xd := ⟨_, rfl⟩
                            obtain ⟨ve, hve⟩ : ∃ ve, ve = wd WS xe := ⟨_, rfl⟩
                            have hd64 : vd < 18446744073709551616 := by rw [hvd]; exact wd_lt WSW.out xd
                            have he64 : ve < 18446744073709551616 := by rw [hve]; exact wd_lt WSW.out xe
                            rw [← hvd, ← hve] at hv2
                            have hn64 : nk < 18446744073709551616 := by rw [hv2]; exact or_word (and_word hd64) (and_word hw64)
                            obtain ⟨m1, hm1⟩ : ∃ m1, m1 = vd &&& ve := ⟨_, rfl⟩
                            obtain ⟨m2, hm2⟩ : ∃ m2, m2 = wk &&& noW ve := ⟨_, rfl⟩
                            have E1 : bits .and .u64 (nk : Int) (ve : Int) = (m1 : Int) := by rw [u64_and_nat _ _ hn64 he64, hv2, next_and hd64 he64 hw64, hm1]
                            have E2 : bits .and .u64 (vd : Int) (ve : Int) = (m1 : Int) := by rw [u64_and_nat _ _ hd64 he64, hm1]
                            have h3 : nk &&& noW ve = m2 := by rw [hv2, next_not hd64 he64 hw64, hm2]
                            have E3 : bits .andNot .u64 (nk : Int) (ve : Int) = (m2 : Int) := (u64_andNot_nat _ _ hn64 he64).trans (congrArg (fun (z : Nat) => (z : Int)) h3)
                            have E4 : bits .andNot .u64 (wk : Int) (ve : Int) = (m2 : Int) := (u64_andNot_nat _ _ hw64 he64).trans (congrArg (fun (z : Nat) => (z : Int)) hm2.symm)
                            clear h3
                            have HXQ := Lib.hid (HWV.out xq wk hv1 hok.1)
                            have HXD := Lib.hid (HWV.out xd vd hvd.symm hok.2.1)
                            have HXE := Lib.hid (HWV.out xe ve hve.symm hok.2.2)
                            clear hv1 hv2 hvd hve hm1 hm2 hok h1 h2 hnx hn64 hd64 he64 hw64
                            have WAW := Lib.hid waw
                            have NAW := Lib.hid naw
                            clear waw naw
                            go_wp2_with fail
                            obtain ⟨wY, hwY⟩ : ∃ W, W = wr.alloc (.cells #[.int .u32 (xq : Int), .int .u32 (xd : Int), .int .u32 (xe : Int), .bool xi] 61) := ⟨_, rfl⟩
                            obtain ⟨br, hbr⟩ : ∃ b, b = wr.heap.size := ⟨_, rfl⟩
                            have KB := Lib.hid (show Kept [] wr wY from by rw [hwY]; exact (Kept.refl [] wr).alloc _)
                            have hbb : wY.heap[br]? = some (.cells #[.int .u32 (xq : Int), .int .u32 (xd : Int), .int .u32 (xe : Int), .bool xi] 61 (0, 0)) := by rw [hwY, hbr]; exact heap_alloc_new wr _
                            rw [← hwY, ← hbr]
                            clear hwY hbr r0 r1 r2 r3
                            have e0 : wY.cell? ⟨br, 0, none⟩ = some (.int .u32 (xq : Int)) := blk_cell hbb 0
                            have e1 : wY.cell? ⟨br, 1, none⟩ = some (.int .u32 (xd : Int)) := blk_cell hbb 1
                            have e2 : wY.cell? ⟨br, 2, none⟩ = some (.int .u32 (xe : Int)) := blk_cell hbb 2
                            have e3 := KB.out.cell WAW.out (by simp)
                            have e4 := KB.out.cell NAW.out (by simp)
                            have K8B := Lib.hid (K8R.out.trans KB.out)
                            have KA := Kept.refl [] wY
                            go_region_held3 (fun W => W.cell? ⟨br, 0, none⟩ = some (.int .u32 (xq : Int)) ∧ W.cell? ⟨br, 1, none⟩ = some (.int .u32 (xd : Int)) ∧ W.cell? ⟨br, 2, none⟩ = some (.int .u32 (xe : Int)) ∧ W.cell? (aw.add q) = some (.int .u64 (wk : Int)) ∧ W.cell? (an.add q) = some (.int .u64 (nk : Int)))
                              (first | exact ⟨Kept.cell (F := []) (w := wY) (by (repeat (first | with_reducible exact KA | with_reducible apply Kept.drew | with_reducible apply Kept.drewN | with_reducible apply Kept.alloc))) e0 (by simp), Kept.cell (F := []) (w := wY) (by (repeat (first | with_reducible exact KA | with_reducible apply Kept.drew | with_reducible apply Kept.drewN | with_reducible apply Kept.alloc))) e1 (by simp), Kept.cell (F := []) (w := wY) (by (repeat (first | with_reducible exact KA | with_reducible apply Kept.drew | with_reducible apply Kept.drewN | with_reducible apply Kept.alloc))) e2 (by simp), Kept.cell (F := []) (w := wY) (by (repeat (first | with_reducible exact KA | with_reducible apply Kept.drew | with_reducible apply Kept.drewN | with_reducible apply Kept.alloc))) e3 (by simp), Kept.cell (F := []) (w := wY) (by (repeat (first | with_reducible exact KA | with_reducible apply Kept.drew | with_reducible apply Kept.drewN | with_reducible apply Kept.alloc))) e4 (by simp)⟩ | go_keep)
                              (first | (go_at_call 20; (with_reducible refine (HXQ.out _ ?kk).mono ?_); (case kk => exact K8B.out.trans (by (repeat (first | with_reducible exact KA | with_reducible apply Kept.drew | with_reducible apply Kept.drewN | with_reducible apply Kept.alloc)))); rintro e w5 ⟨rfl, k5⟩; have KA := (show Kept [] wY _ from (by (repeat (first | with_reducible exact KA | with_reducible apply Kept.drew | with_reducible apply Kept.drewN | with_reducible apply Kept.alloc)))).trans k5) | (go_at_call 20; (with_reducible refine (HXD.out _ ?kk).mono ?_); (case kk => exact K8B.out.trans (by (repeat (first | with_reducible exact KA | with_reducible apply Kept.drew | with_reducible apply Kept.drewN | with_reducible apply Kept.alloc)))); rintro e w5 ⟨rfl, k5⟩; have KA := (show Kept [] wY _ from (by (repeat (first | with_reducible exact KA | with_reducible apply Kept.drew | with_reducible apply Kept.drewN | with_reducible apply Kept.alloc)))).trans k5) | (go_at_call 20; (with_reducible refine (HXE.out _ ?kk).mono ?_); (case kk => exact K8B.out.trans (by (repeat (first | with_reducible exact KA | with_reducible apply Kept.drew | with_reducible apply Kept.drewN | with_reducible apply Kept.alloc)))); rintro e w5 ⟨rfl, k5⟩; have KA := (show Kept [] wY _ from (by (repeat (first | with_reducible exact KA | with_reducible apply Kept.drew | with_reducible apply Kept.drewN | with_reducible apply Kept.alloc)))).trans k5))
                            all_goals
                              go_wp2_with fail
                              go_roundw
                              case rel => exact ⟨q + 1, by omega, by go_num, (KR.out.trans KB.out).trans KA⟩
                              case measure => simp [intOf]; omega
                        · obtain rfl : q = N.regs.length := by omega
                          go_wp2_with fail
                          go_roundw
                          case rel => exact ⟨i + 1, R8, by omega, by omega, by go_num, R8'.out.keep (KN.out.trans KR.out), (KN.out.trans KR.out).cell CB8.out (by simp)⟩
                          case measure => simp [intOf]; omega
        · by_cases h1 : i < clen
          · have h2 : 20 ≤ i := by omega
            clear hlt2
            go_wp2_with fail
            refine (tells8 _).mono ?_
            rintro e w6 ⟨rfl, hk6⟩
            go_wp2_with fail
            go_ret
            exact ⟨rfl, RA.out.kp.trans hk6⟩
          · clear hlt2
            go_wp2_with fail
            refine (tells8 _).mono ?_
            rintro e w6 ⟨rfl, hk6⟩
            go_wp2_with fail
            go_ret
            exact ⟨rfl, RA.out.kp.trans hk6⟩
end Go.Proofs.YtielfgngdhcpfaaGreat
