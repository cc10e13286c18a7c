/-
  Law SimAgain: the walk.
-/
import Derived.Test.YtielfgngdhcpfaaGreatP44
import Derived.StillTailTactics
import Derived.Deep.DeepCutAuto
import Derived.Deep.LoopGhost
import Derived.Deep.CutBlock
namespace Go.Proofs.YtielfgngdhcpfaaGreat
open Go.ChangeShapes Go.WideShapes Go.ChangeAt Go.RowKit
open Go.Maps (Keyed)
open Go.WideMaps
set_option linter.unusedVariables false
set_option linter.unusedSimpArgs false

variable {w w' w1 : World} {s p n k : Nat} {F R F' R' S : List Nat} {g : Gr} {N : Nt}
theorem row_info : (Tryz.prog.info? 25).map (fun i => (i.zero, i.size, i.bytes)) = some (some (.slice none 0 0), 1, 24) := by kernel_rfl
def YesKept (w : World) (e : Ending) (w' : World) : Prop := e = .returned (.bool true) ∧ Kept [] w w'
set_option maxHeartbeats 6400000 in
set_option maxRecDepth 100000 in
theorem sim_again (o1 o2 : Bool) (sa : Option Addr) (sl : List NStp) (sc len : Nat) (ca : Option Addr) (cl : List WR) (cc clen : Nat) (at' : Nat) (w : World) (hlen : sl.length = len) (hss : SlNStepsC w sa sl) (hso : ∀ s ∈ sl, s.ok) (hcl : cl.length = clen) (hclm : clen ≤ 140737488351232) (hcs : SlW w ca cl) (hcw : ∀ r ∈ cl, Words r.l ∧ r.l.length ≤ 140737488351232) (hat : at' < 256) :
    Calls Tryz.prog 4 #[.agg #[.bool o1, .bool o2], .slice sa len sc, .slice ca clen cc, .int .u8 (at' : Int)] w (YesKept w) := by
  have HB := Lib.hid (fun (W : World) (hk : Kept [] w W) => built08 o1 o2 sa sl sc len W hlen (fun k hk' => by
    exact (hss.kept0 hk) k hk') hso)
  have HCS := Lib.hid hcs
  have HCW := Lib.hid hcw
  have HCL := Lib.hid hcl
  clear hlen hss hso hcs hcw hcl
  go_enter Tryz.func4, Tryz.ntmps4; (try simp only [List.append])
  go_wp2_with fail
  refine (HB.out _ ((Kept.refl [] w).alloc _)).mono ?_
  intro e w1 hx
  obtain ⟨n, NF, NR, q, F2, R2, he, hx⟩ := hx
  subst he
  have hnet := hx.net
  have K1 := Lib.hid (((Kept.refl [] w).alloc (.cells #[.bool o1, .bool o2] 23)).trans hx.kept)
  have NEW1 := Lib.hid (show ∀ b ∈ NF ++ NR, w.heap.size ≤ b from fun b hb => by have := hx.new1 b hb; simp at this; omega)
  have hfine := builtN_fine true o1 o2 sl 60
  have hchk := built_check o1 o2 sl 60
  generalize builtN true o1 o2 sl 60 = N at *
  have HN1 := Lib.hid hnet
  have HFI := Lib.hid hfine
  have HCK := Lib.hid hchk
  clear hx hnet hfine hchk HB
  go_wp2_with fail
  refine (sim_new HN1.out HFI.out (by omega) HCK.out).mono ?_
  rintro e w2 ⟨s, F, R, rfl, hs, hk2, hf2⟩
  have HS2 := Lib.hid hs
  have K2 := Lib.hid (K1.out.trans hk2)
  have HN2 := Lib.hid (HN1.out.kept0 hk2)
  have FR2 := Lib.hid hf2
  have LN1 := Lib.hid (show ∀ b ∈ NF ++ NR, b < w1.heap.size from fun b hb => (List.mem_append.1 hb).elim (HN1.out.lt.1 b) (HN1.out.lt.2 b))
  have LS2 := Lib.hid (show ∀ b ∈ F ++ R, b < w2.heap.size from fun b hb => (List.mem_append.1 hb).elim (HS2.out.lt.1 b) (HS2.out.lt.2 b))
  have Z12 := Lib.hid hk2.size
  clear hs hk2 hf2
  have l1 := HFI.out.ok.len
  have l2 := HFI.out.ok.ik
  have l3 := HFI.out.ok.rk
  have l4 := HFI.out.ok.ok
  go_wp2_with fail
  refine (net_copy HN2.out ⟨by omega, by omega, by omega, by omega⟩ (fun b hb => by have := HFI.out.ok.il b hb; omega) (fun b hb => by have := HFI.out.ok.ol b hb; omega)).mono ?_
  rintro e w3 ⟨n2, NF2, NR2, rfl, hn3, hk3, hf3⟩
  have HN3 := Lib.hid hn3
  have K3 := Lib.hid hk3
  clear hn3 hk3 hf3
  go_wp2_with fail
  refine (sim_new HN3.out HFI.out (by omega) HCK.out).mono ?_
  rintro e w4 ⟨t, F', R', rfl, ht, hk4, hf4⟩
  have HT4 := Lib.hid ht
  have K24 := Lib.hid (K3.out.trans hk4)
  have FR4 := Lib.hid (show ∀ b ∈ F' ++ R', w2.heap.size ≤ b from fun b hb => Nat.le_trans K3.out.size (hf4 b hb))
  clear ht hk4 hf4 l1 l2 l3 l4
  have PA := Lib.hid (show PairAt w w4 w4.heap.size N (cl.map (·.l)) n NF NR s F R 0 t F' R' 0 none 0 0 [] from by
    have z2 := K2.out.size
    have zK := K1.out.size
    have zz := Z12.out
    refine ⟨HN2.out.kept0 K24.out, HS2.out.kept0 K24.out, HT4.out, ORows.nil _ _, by simp, by simp [orBlocks], fun b hb => ?_, by simp [ft, orBlocks], fun b hb hx => ?_, fun b hb hx => ?_, fun b hb hx => ?_, by simp [ft], K2.out.trans K24.out, Nat.le_refl _⟩
    · rcases List.mem_append.1 hb with hb | hb
      · have h1 := LS2.out b (by simp [hb])
        have h2 := FR2.out b (by simp [hb])
        have h3 := K24.out.size
        omega
      · have h1 := HT4.out.lt.1 b hb
        have h2 := FR4.out b (by simp [hb])
        omega
    · have h1 := LN1.out b hb
      rcases List.mem_append.1 hx with hx | hx
      · have := FR2.out b (by simp [hx]); omega
      · have := FR4.out b (by simp [hx]); omega
    · have h1 := LS2.out b hb
      have h2 := FR4.out b (by simp [hx])
      omega
    · have h1 := FR4.out b hb
      have h2 := LS2.out b (by simp [hx])
      omega)
  clear HS2 HT4 HN1 HN2 HN3 K1 K2 K3 K24 FR2 FR4 LN1 LS2 Z12
  obtain ⟨q, hq⟩ : ∃ q, q = at' % 20 := ⟨_, rfl⟩
  have hq20 : q < 20 := by omega
  obtain ⟨z, hz⟩ : ∃ z, z = w4.heap.size := ⟨_, rfl⟩
  rw [← hz] at PA
  obtain ⟨C, hC⟩ : ∃ C, C = cl.map (·.l) := ⟨_, rfl⟩
  have HC := Lib.hid hC
  rw [← hC] at PA
  have HQ := Lib.hid hq
  clear hz hC hq
  go_upto_block 0 with (fail)
  go_cut [15, 16] (fun v tv wx => ∃ (k : Nat) (fa : Option Addr) (fc : Nat) (fs : List OR) (R R' : List Nat), k ≤ clen ∧ k ≤ 20 ∧ v = .slice fa k fc ∧ PairAt w wx z N C n NF NR s F R k t F' R' k fa k fc fs ∧ ∃ tx, tx = tv ∧ TwinAt w wx N C q k tx NF NR F R F' fa fs)
  case first =>
    go_wp2_with fail
    go_loopg [15, 16, 18] 20 (fun gk v tv i wr => ∃ (k : Nat) (fa : Option Addr) (fc : Nat) (fs : List OR) (R R' : List Nat), gk = 20 - k ∧ k ≤ clen ∧ k ≤ 20 ∧ i = .int .i64 k ∧ v = .slice fa k fc ∧ PairAt w wr z N C n NF NR s F R k t F' R' k fa k fc fs ∧ ∃ tx, tx = tv ∧ TwinAt w wr N C q k tx NF NR F R F' fa fs)
    case atStart => exact ⟨0, none, 0, [], R, R', rfl, Nat.zero_le _, by omega, rfl, rfl, PA.out, _, rfl, fun _ => rfl, fun h => by omega⟩
    case round =>
      obtain ⟨k, fa, fc, fs, R, R', hgk, hk, hk20, rfl, rfl, hpa, tv, rfl, htw⟩ := hrel
      have HP := Lib.hid hpa
      have HT := Lib.hid htw
      clear hpa htw
      by_cases hlt : k < clen ∧ k < 20
      · obtain ⟨hlt1, hlt2⟩ := hlt
        have hkl : k < cl.length := by rw [HCL.out]; exact hlt1
        obtain ⟨cb, co, rfl, x1, x2⟩ := (HCS.out.kept0 HP.out.kp) k hkl
        have hw1 := (HCW.out _ (List.getElem_mem hkl))
        have HCK := Lib.hid (show C.getD k [] = cl[k].l from by rw [HC.out, List.getD_eq_getElem?_getD, List.getElem?_map, List.getElem?_eq_getElem hkl]; rfl)
        have l2 := HFI.out.ok.ik
        have l3 := HFI.out.ok.rk
        have HGV := Lib.hid (fun (W : World) (hnW : NetAt W n NF NR N) (hsW : SlN W .u64 cl[k].a cl[k].l) (more : Nat) (hm : more ≤ 10) => given_c hnW (by omega) (fun b hb => by have := HFI.out.ok.il b hb; omega) cl[k].a cl[k].c cl[k].l.length cl[k].l rfl hw1.2 hsW more hm)
        have hcy := sgs_cy N C k
        have hsN := sgs_N N C k
        have HSO := Lib.hid (sgs_ok HFI.out (by omega) (c := C) (fun r hr => by rw [HC.out] at hr; obtain ⟨y, hy, rfl⟩ := List.mem_map.1 hr; exact (HCW.out y hy).1) k)
        go_upto_region 14 with (fail)
        go_upto_if 78 with (fail)
        go_cut [16] (fun tv' wx => ∃ tx, tx = tv' ∧ PairAt w wx z N C n NF NR s F R k t F' R' k fa k fc fs ∧ TwinAt w wx N C q (k + 1) tx NF NR F R F' fa fs)
        case first =>
          by_cases hkq : k = q
          · have hkq' : ((k : Int) == (at' : Int) % 20) = true := by have := HQ.out; simp; omega
            have HKQ := Lib.hid hkq
            clear hkq
            have HCP := Lib.hid (sim_copy HP.out.sa (by rw [HSO.out.rl, hsN]; omega))
            go_wp2_with fail
            refine HCP.out.mono ?_
            rintro e w5 ⟨s', FT, rfl, hs, hk5, hf5⟩
            go_wp2_with fail
            go_meet
            have HTN := TwinAt.new HP.out hs hk5 hf5
            have HTN2 : TwinAt w w5 N C q (k + 1) (.pointer (some ⟨s', 0, none⟩)) NF NR F R F' fa fs := by rw [← HKQ.out]; exact HTN
            exact ⟨_, rfl, HP.out.keep hk5, HTN2⟩
          · have hkq' : ((k : Int) == (at' : Int) % 20) = false := by have := HQ.out; simp; omega
            have HTW := Lib.hid (show TwinAt w wr N C q (k + 1) tv NF NR F R F' fa fs from ⟨fun h => HT.out.1 (by omega), fun h => HT.out.2 (by omega)⟩)
            go_wp2_with fail
            go_meet
            exact ⟨_, rfl, HP.out, HTW.out⟩
        case rest =>
          obtain ⟨tx, rfl, hp, ht⟩ := hcut
          clear HP HT x1 x2
          obtain ⟨wr, rfl⟩ : ∃ v : World, v = wc := ⟨_, rfl⟩
          have HP := Lib.hid hp
          have HT := Lib.hid ht
          clear hp ht
          obtain ⟨_, _, e8, x1, x2⟩ := (HCS.out.kept0 HP.out.kp) k hkl
          injection e8 with e8
          injection e8 with e8 e9
          subst e8 e9
          go_wp2_with fail
          refine (HGV.out wr HP.out.net x2 1 (by omega)).mono ?_
          rintro e w5 ⟨ga, gn, gc, grs, rfl, hg, hgm, hgk, hgf⟩
          have HG := Lib.hid hg
          have HGM := Lib.hid hgm
          have K5 := Lib.hid hgk
          clear hg hgm hgk hgf
          go_wp2_with fail
          have HBD := Lib.hid (sim_step_bad (HP.out.sa.kept0 K5.out) (by rw [hsN]; omega) (by have := HG.out.len; have h2 := congrArg List.length HGM.out; have h3 := congrArg List.length (givenTo_lens N.inb cl[k].l N.inb.length (Nat.le_refl _)); simp [givenN] at h2 h3; omega) HG.out (by rw [HGM.out, hsN]; exact given_not _ _))
          refine HBD.out.mono ?_
          rintro e w6 ⟨rfl, hk6⟩
          have K6 := Lib.hid (K5.out.trans hk6)
          clear hk6 HBD HG HGM K5
          have x16 := K6.out.cell x1 (by simp)
          have HCY := Lib.hid (sim_cycles (HP.out.sa.kept0 K6.out))
          rw [hcy] at HCY
          go_wp2_with fail
          refine HCY.out.mono ?_
          rintro e w7 ⟨rfl, rfl⟩
          go_wp2_with fail
          have HFT := Lib.hid (given_fits N.inb cl[k].l)
          have HCYC := Lib.hid (show cyc N C k = givenN N.inb cl[k].l 0 from by unfold cyc; rw [HCK.out])
          have HWO := Lib.hid (given_words (b := N.inb) hw1.1 0)
          have HGL := Lib.hid (show (givenN N.inb cl[k].l 0).length = N.inb.length from fitB_len HFT.out)
          refine (HGV.out w6 (HP.out.net.kept0 K6.out) (x2.kept0 K6.out) 0 (by omega)).mono ?_
          rintro e w7 ⟨ga, gn, gc, grs, rfl, hg, hgm, hgk, hgf⟩
          have HG := Lib.hid hg
          have HGM := Lib.hid hgm
          have K7 := Lib.hid (K6.out.trans hgk)
          clear hg hgm hgk hgf
          have HST := Lib.hid (sim_step (HP.out.sa.kept0 K7.out) HSO.out (by rw [hcy]; omega) (by have := HG.out.len; have h2 := congrArg List.length HGM.out; have h3 := HGL.out; simp at h2; omega) HG.out (fun r hr => HWO.out _ (by rw [← HGM.out]; exact List.mem_map_of_mem hr)) (by rw [HGM.out, hsN]; exact HFT.out))
          rw [HGM.out, ← HCYC.out] at HST
          go_wp2_with fail
          refine HST.out.mono ?_
          intro e w8 hx
          obtain ⟨xa, xc, xrs, R2, he, hrows, hmap, hsim, hst, hfr⟩ := hx
          rw [hsN] at he hrows hmap
          subst he
          have P8 := Lib.hid ((HP.out.keep K7.out).stepS (i' := k + 1) hsim hst)
          have W8 := Lib.hid (show WRows w8 xa N.outb.length xc xrs from hrows)
          have M8 := Lib.hid (show xrs.map (·.l) = told N C k from hmap)
          have KR8 := Lib.hid (show Kept ((F ++ F') ++ ft fa) wr w8 from (K7.out.more (by simp)).trans (hst.st.kept.more (fun b hb => by simp [hb])))
          have F8 := Lib.hid (fun b hb => Nat.le_trans K7.out.size (hfr b hb))
          have RR8 := Lib.hid (fun b hb => (hst.rows b hb).imp id (fun h => Nat.le_trans K7.out.size h))
          obtain ⟨_, _, e8, x18, x28⟩ := (HCS.out.kept0 P8.out.kp) k hkl
          injection e8 with e8
          injection e8 with e8 e9
          subst e8 e9
          clear hrows hmap hsim hst hfr HST x1 x2 x16
          go_wp2_with fail
          refine (HGV.out w8 P8.out.net x28 0 (by omega)).mono ?_
          rintro e w9 ⟨ga, gn, gc, grs, rfl, hg, hgm, hgk, hgf⟩
          have HG := Lib.hid hg
          have HGM := Lib.hid hgm
          have K9 := Lib.hid hgk
          clear hg hgm hgk hgf
          have HST := Lib.hid (sim_step (P8.out.tb.kept0 K9.out) HSO.out (by rw [hcy]; omega) (by have := HG.out.len; have h2 := congrArg List.length HGM.out; have h3 := HGL.out; simp at h2; omega) HG.out (fun r hr => HWO.out _ (by rw [← HGM.out]; exact List.mem_map_of_mem hr)) (by rw [HGM.out, hsN]; exact HFT.out))
          rw [HGM.out, ← HCYC.out] at HST
          go_wp2_with fail
          refine HST.out.mono ?_
          intro e w10 hx
          obtain ⟨ya, yc, yrs, R3, he, hrows, hmap, hsim, hst, hfr⟩ := hx
          rw [hsN] at he hrows hmap
          subst he
          have P10 := Lib.hid ((P8.out.keep K9.out).stepT (j' := k + 1) hsim hst)
          have W10 := Lib.hid (show WRows w10 ya N.outb.length yc yrs from hrows)
          have M10 := Lib.hid (show yrs.map (·.l) = told N C k from hmap)
          have KR10 := Lib.hid (show Kept ((F ++ F') ++ ft fa) wr w10 from KR8.out.trans ((K9.out.more (by simp)).trans (hst.st.kept.more (fun b hb => by simp [hb]))))
          have LF' := Lib.hid (show ∀ b ∈ F ++ F', b < wr.heap.size from fun b hb => (List.mem_append.1 hb).elim (HP.out.sa.lt.1 b) (HP.out.tb.lt.1 b))
          have X10 := Lib.hid (show WRows w10 xa N.outb.length xc xrs from (W8.out.kept0 K9.out).kept hst.st.kept (fun b hb hx => by have h1 := F8.out b (by simp [hb]); have h2 := LF'.out b (by simp [hx]); omega) (fun b hb hx => by have h1 := F8.out b (by simp [hb]); have h2 := LF'.out b (by simp [hx]); omega))
          clear hrows hmap hsim hst hfr HST x18 x28
          go_wp2_with fail
          have HLK := Lib.hid (like_c xa ya xc yc N.outb.length xrs yrs w10 X10.out W10.out (by have := HFI.out.ok.ok; omega) (by rw [M8.out, M10.out]) (fun r hr => told_short HFI.out.ok k _ (by rw [← M8.out]; exact List.mem_map_of_mem hr)))
          refine HLK.out.mono ?_
          rintro e w11 ⟨rfl, dr, hw11⟩
          have K11 := Lib.hid (show Kept [] w10 w11 from by rw [hw11]; exact (Kept.refl [] w10).drewN dr)
          clear hw11
          have hown := (P10.out.fi.own).kept K11.out (by simp)
          go_wp2_with (at_builtin; refine wpList_push rfl rfl Tryz.underlying51 row_info rfl rfl rfl hown rfl (by unfold maxLen; omega) (by omega) ?_; intro a12 c12 w12 hown12 hst12)
          go_roundg (20 - (k + 1))
          case measure => omega
          case rel => 
            have hfb := LF'.out
            have HPP := (P10.out).push (r := ⟨xa, xc, xrs⟩) X10.out M8.out (fun b hb => by
              have h1 := F8.out b hb
              refine ⟨fun hx => ?_, fun hx => ?_, ?_⟩
              · have := HP.out.fi.own.lt b hx; omega
              · have := LF'.out b hx; omega
              · have := HP.out.kp.size; omega) K11.out hown12 hst12
            exact ⟨k + 1, a12, c12, fs ++ [⟨xa, xc, xrs⟩], R2, R3, rfl, by omega, by omega, by push_cast; rfl, rfl, HPP, _, rfl, HT.out.round (KR10.out.trans ((K11.out.more (by simp)).trans (hst12.kept.more (fun b hb => by simp [hb])))) F8.out (fun b hb => (hst12.fresh b hb).imp id (fun h => Nat.le_trans (Nat.le_trans KR10.out.size K11.out.size) h)) RR8.out⟩
      · by_cases h1 : k < clen
        · have h2 : 20 ≤ k := by omega
          go_wp2_with fail
          go_meet
          exact ⟨k, fa, fc, fs, R, R', hk, hk20, rfl, HP.out, _, rfl, HT.out⟩
        · go_wp2_with fail
          go_meet
          exact ⟨k, fa, fc, fs, R, R', hk, hk20, rfl, HP.out, _, rfl, HT.out⟩
  case rest =>
    obtain ⟨k, fa, fc, fs, R, R', hk, hk20, rfl, hpa, tv, rfl, htw⟩ := hcut
    clear PA
    obtain ⟨w5, rfl⟩ : ∃ v : World, v = wc := ⟨_, rfl⟩
    have HRS := Lib.hid hpa.run
    have HTW := Lib.hid (fun hq => htw.run hpa.run hq)
    have HQI := Lib.hid (show (.int .i64 ((at' : Int) % 20) : Value) = .int .i64 ((q : Nat) : Int) from by rw [HQ.out]; rfl)
    clear hpa htw
    go_wp2_with fail
    go_loopg [25] (20 - q) (fun gk iv wr => ∃ (i : Nat), gk = 20 - i ∧ q ≤ i ∧ (i ≤ k ∨ i = q) ∧ iv = .int .i64 i ∧ RunAt w wr N C n NF NR s F R k fa k fc fs ∧ (q < k → ∃ tw FT RT, tv = .pointer (some ⟨tw, 0, none⟩) ∧ RunAt w wr N C n NF NR tw FT RT i fa k fc fs ∧ ∀ b ∈ F ++ R, b ∉ FT))
    case atStart => exact ⟨q, rfl, by omega, .inr rfl, HQI.out, HRS.out, HTW.out⟩
    case round =>
      clear HRS HTW
      obtain ⟨i, rfl, hqi, hik, rfl, hrs, htw⟩ := hrel
      have HRS := Lib.hid hrs
      by_cases hlt : i < k
      · obtain ⟨tw, FT, RT, rfl, hrt, hap⟩ := htw (by omega)
        have HRT := Lib.hid hrt
        have HAP := Lib.hid hap
        clear hrt hap hrs
        have hkl : i < cl.length := by rw [HCL.out]; omega
        obtain ⟨cb2, co2, e8, x1, x2⟩ := (HCS.out.kept0 HRT.out.kp) i hkl
        have hw1 := (HCW.out _ (List.getElem_mem hkl))
        have HCK := Lib.hid (show C.getD i [] = cl[i].l from by rw [HC.out, List.getD_eq_getElem?_getD, List.getElem?_map, List.getElem?_eq_getElem hkl]; rfl)
        have l2 := HFI.out.ok.ik
        have l4 := HFI.out.ok.ok
        subst e8
        have hcy := sgs_cy N C i
        have hsN := sgs_N N C i
        have HSO := Lib.hid (sgs_ok HFI.out (by omega) (c := C) (fun r hr => by rw [HC.out] at hr; obtain ⟨y, hy, rfl⟩ := List.mem_map.1 hr; exact (HCW.out y hy).1) i)
        have HFT := Lib.hid (given_fits N.inb cl[i].l)
        have HCYC := Lib.hid (show cyc N C i = givenN N.inb cl[i].l 0 from by unfold cyc; rw [HCK.out])
        have HWO := Lib.hid (given_words (b := N.inb) hw1.1 0)
        have HGL := Lib.hid (show (givenN N.inb cl[i].l 0).length = N.inb.length from fitB_len HFT.out)
        have HGV := Lib.hid (given_c HRT.out.net (by omega) (fun b hb => by have := HFI.out.ok.il b hb; omega) cl[i].a cl[i].c cl[i].l.length cl[i].l rfl hw1.2 x2 0 (by omega))
        go_wp2_with fail
        refine HGV.out.mono ?_
        rintro e w7 ⟨ga, gn, gc, grs, rfl, hg, hgm, hgk, hgf⟩
        have HG := Lib.hid hg
        have HGM := Lib.hid hgm
        have K7 := Lib.hid hgk
        clear hg hgm hgk hgf HGV
        have HST := Lib.hid (sim_step (HRT.out.sa.kept0 K7.out) HSO.out (by rw [hcy]; omega) (by have := HG.out.len; have h2 := congrArg List.length HGM.out; have h3 := HGL.out; simp at h2; omega) HG.out (fun r hr => HWO.out _ (by rw [← HGM.out]; exact List.mem_map_of_mem hr)) (by rw [HGM.out, hsN]; exact HFT.out))
        rw [HGM.out, ← HCYC.out] at HST
        go_wp2_with fail
        refine HST.out.mono ?_
        intro e w8 hx
        obtain ⟨xa, xc, xrs, R8, he, hrows, hmap, hsim, hst, hfr⟩ := hx
        rw [hsN] at he hrows hmap
        subst he
        have P8 := Lib.hid ((HRT.out.keep K7.out).step (i' := i + 1) hsim hst)
        have W8 := Lib.hid (show WRows w8 xa N.outb.length xc xrs from hrows)
        have M8 := Lib.hid (show xrs.map (·.l) = told N C i from hmap)
        have ST8 := Lib.hid hst.st.kept
        have hfs : i < fs.length := by have := P8.out.fi.len; omega
        obtain ⟨fb, hfa, xf⟩ := P8.out.fi.cell hfs
        subst hfa
        have HLK := Lib.hid (like_c xa fs[i].a xc fs[i].c N.outb.length xrs fs[i].rs w8 W8.out (P8.out.fi.rows _ (List.getElem_mem hfs)) (by omega) (by rw [M8.out, P8.out.fis i hfs]) (fun r hr => told_short HFI.out.ok i _ (by rw [← M8.out]; exact List.mem_map_of_mem hr)))
        clear hrows hmap hsim hst hfr HST HG HGM
        go_wp2_with fail
        refine HLK.out.mono ?_
        rintro e w9 ⟨rfl, dr, hw9⟩
        have K9 := Lib.hid (show Kept [] w8 w9 from by rw [hw9]; exact (Kept.refl [] w8).drewN dr)
        clear hw9 HLK
        have HCY := Lib.hid (sim_cycles (P8.out.sa.kept0 K9.out))
        rw [sgs_cy] at HCY
        go_wp2_with fail
        refine HCY.out.mono ?_
        rintro e w10 ⟨rfl, rfl⟩
        go_wp2_with fail
        go_roundg (20 - (i + 1))
        case measure => omega
        case rel => exact ⟨i + 1, rfl, by omega, by omega, by push_cast; rfl, ((HRS.out.keep K7.out).aside ST8.out HRT.out.e1 HAP.out HRT.out.e2).keep K9.out, fun _ => ⟨tw, FT, R8, rfl, P8.out.keep K9.out, HAP.out⟩⟩
      · have hsN := sgs_N N C k
        have l3 := HFI.out.ok.rk
        obtain ⟨hsF, hcr⟩ := reset_c HRS.out.sa (by rw [hsN]; omega)
        rw [hsN] at hcr
        have HCR := Lib.hid hcr
        have HSF := Lib.hid hsF
        clear hcr hsF htw hrs
        go_wp2_with fail
        refine HCR.out.mono ?_
        rintro e w6 ⟨rfl, F2, R2, hs2, hk2, hf2⟩
        have HR6 := Lib.hid (HRS.out.reset HSF.out hs2 hk2 hf2)
        clear hs2 hk2 hf2 HCR
        go_wp2_with fail
        refine (sim_cycles HR6.out.sa).mono ?_
        rintro e w7 ⟨rfl, rfl⟩
        go_wp2_with fail
        go_loopg [28] k (fun gk iv wr => ∃ (i : Nat) (R : List Nat), gk = k - i ∧ i ≤ k ∧ iv = .int .i64 i ∧ RunAt w wr N C n NF NR s F2 R i fa k fc fs)
        case atStart => exact ⟨0, R2, rfl, Nat.zero_le _, rfl, HR6.out⟩
        case round =>
          clear HR6 HRS
          obtain ⟨i, R, rfl, hik, rfl, hrs⟩ := hrel
          have HRS := Lib.hid hrs
          clear hrs
          by_cases hlt : i < k
          · have hkl : i < cl.length := by rw [HCL.out]; omega
            obtain ⟨cb2, co2, e8, x1, x2⟩ := (HCS.out.kept0 HRS.out.kp) i hkl
            have hw1 := (HCW.out _ (List.getElem_mem hkl))
            have HCK := Lib.hid (show C.getD i [] = cl[i].l from by rw [HC.out, List.getD_eq_getElem?_getD, List.getElem?_map, List.getElem?_eq_getElem hkl]; rfl)
            have l2 := HFI.out.ok.ik
            have l4 := HFI.out.ok.ok
            subst e8
            have hcy := sgs_cy N C i
            have hsN := sgs_N N C i
            have HSO := Lib.hid (sgs_ok HFI.out (by omega) (c := C) (fun r hr => by rw [HC.out] at hr; obtain ⟨y, hy, rfl⟩ := List.mem_map.1 hr; exact (HCW.out y hy).1) i)
            have HFT := Lib.hid (given_fits N.inb cl[i].l)
            have HCYC := Lib.hid (show cyc N C i = givenN N.inb cl[i].l 0 from by unfold cyc; rw [HCK.out])
            have HWO := Lib.hid (given_words (b := N.inb) hw1.1 0)
            have HGL := Lib.hid (show (givenN N.inb cl[i].l 0).length = N.inb.length from fitB_len HFT.out)
            have HGV := Lib.hid (given_c HRS.out.net (by omega) (fun b hb => by have := HFI.out.ok.il b hb; omega) cl[i].a cl[i].c cl[i].l.length cl[i].l rfl hw1.2 x2 0 (by omega))
            go_wp2_with fail
            refine HGV.out.mono ?_
            rintro e w7 ⟨ga, gn, gc, grs, rfl, hg, hgm, hgk, hgf⟩
            have HG := Lib.hid hg
            have HGM := Lib.hid hgm
            have K7 := Lib.hid hgk
            clear hg hgm hgk hgf HGV
            have HST := Lib.hid (sim_step (HRS.out.sa.kept0 K7.out) HSO.out (by rw [hcy]; omega) (by have := HG.out.len; have h2 := congrArg List.length HGM.out; have h3 := HGL.out; simp at h2; omega) HG.out (fun r hr => HWO.out _ (by rw [← HGM.out]; exact List.mem_map_of_mem hr)) (by rw [HGM.out, hsN]; exact HFT.out))
            rw [HGM.out, ← HCYC.out] at HST
            go_wp2_with fail
            refine HST.out.mono ?_
            intro e w8 hx
            obtain ⟨xa, xc, xrs, R8, he, hrows, hmap, hsim, hst, hfr⟩ := hx
            rw [hsN] at he hrows hmap
            subst he
            have P8 := Lib.hid ((HRS.out.keep K7.out).step (i' := i + 1) hsim hst)
            have W8 := Lib.hid (show WRows w8 xa N.outb.length xc xrs from hrows)
            have M8 := Lib.hid (show xrs.map (·.l) = told N C i from hmap)
            have ST8 := Lib.hid hst.st.kept
            have hfs : i < fs.length := by have := P8.out.fi.len; omega
            obtain ⟨fb, hfa, xf⟩ := P8.out.fi.cell hfs
            subst hfa
            have HLK := Lib.hid (like_c xa fs[i].a xc fs[i].c N.outb.length xrs fs[i].rs w8 W8.out (P8.out.fi.rows _ (List.getElem_mem hfs)) (by omega) (by rw [M8.out, P8.out.fis i hfs]) (fun r hr => told_short HFI.out.ok i _ (by rw [← M8.out]; exact List.mem_map_of_mem hr)))
            clear hrows hmap hsim hst hfr HST HG HGM
            go_wp2_with fail
            refine HLK.out.mono ?_
            rintro e w9 ⟨rfl, dr, hw9⟩
            have K9 := Lib.hid (show Kept [] w8 w9 from by rw [hw9]; exact (Kept.refl [] w8).drewN dr)
            clear hw9 HLK
            go_wp2_with fail
            go_roundg (k - (i + 1))
            case measure => omega
            case rel => exact ⟨i + 1, R8, rfl, by omega, by push_cast; rfl, P8.out.keep K9.out⟩
          · go_wp2_with fail
            refine (tells8 _).mono ?_
            rintro e w6 ⟨rfl, hk6⟩
            go_wp2_with fail
            go_ret
            exact ⟨rfl, HRS.out.kp.trans hk6⟩
end Go.Proofs.YtielfgngdhcpfaaGreat
