/-
  The document's Once, walked.
-/
import Derived.Test.YtdmcdhkkbkgnbaaGreatQRefB
import Derived.StillTailTactics
import Derived.Deep.RegionHeld3
namespace Go.Proofs.YtdmcdhkkbkgnbaaGreat
open Go.ChangeShapes Go.WideShapes Go.ChangeAt Go.RowKit
open Go.Maps (Keyed)
open Go.WideMaps
set_option linter.unusedVariables false
set_option linter.unusedSimpArgs false

variable {w w' W w0 : World} {p n n' k : Nat} {F R S F' R' : List Nat} {g : Gr} {N M M' : Nt}
theorem st_alloc {we w4 : World} {o : Obj} {S S' : List Nat} (h : Stepped (we.alloc o) w4 S S') : Stepped we w4 S S' :=
  (⟨((Kept.refl [] we).alloc _).more (by simp), fun b hb => .inl hb⟩ : Stepped we _ S S).trans h
set_option maxHeartbeats 64000000 in
set_option maxRecDepth 100000 in
theorem ronce_c (h : RNetAt w n F R N) (hf : NtFine k N) (hk : k ≤ 400) (hz : checkN N = 0) :
    Calls Tryz.prog 11 #[.pointer (some ⟨n, 0, none⟩)] w (ROnceNew N w) := by
  have hck := check06g h hf (by omega)
  rw [hz] at hck
  have HCK := Lib.hid hck
  have HF := Lib.hid hf
  have HH := Lib.hid h
  obtain ⟨p, ia, ic, ra, rc, oa, oc, ri, ro, hp⟩ := rnet_parts h
  have HP := Lib.hid hp
  obtain ⟨G, hgr⟩ := hp.gr
  have HGR := Lib.hid hgr
  have hb01 : w.cell? ⟨p, 0, none⟩ = some (.bool N.g.fold) ∧ w.cell? ⟨p, 1, none⟩ = some (.bool N.g.hash) := by
    obtain ⟨an, cn, hR, hc⟩ := hgr
    exact ⟨hc.c0, hc.c1⟩
  obtain ⟨nR, hnR⟩ : ∃ m, m = N.regs.length := ⟨_, rfl⟩
  obtain ⟨nI, hnI⟩ : ∃ m, m = N.inb.length := ⟨_, rfl⟩
  obtain ⟨nO, hnO⟩ : ∃ m, m = N.outb.length := ⟨_, rfl⟩
  have HNR := Lib.hid hnR
  have HNI := Lib.hid hnI
  have HNO := Lib.hid hnO
  have hnr : nR ≤ 400 := by rw [hnR]; have := hf.ok.rk; omega
  have hni : nI ≤ 400 := by rw [hnI]; have := hf.ok.ik; omega
  have hno : nO ≤ 400 := by rw [hnO]; have := hf.ok.ok; omega
  have HGL := Lib.hid (show N.g.nodes.length ≤ 25601 from by have := hf.ok.len; omega)
  have HRI := Lib.hid (show ri.length = nI from by rw [hnI, ← hp.im]; simp)
  have HRO := Lib.hid (show ro.length = nO from by rw [hnO, ← hp.om]; simp)
  have HNL := Lib.hid (show (neededN N).length = nR from by rw [needed_length hf, hnR])
  have HLT := Lib.hid (show ∀ b ∈ F ++ R, b < w.heap.size from fun b hb => by
    rcases List.mem_append.1 hb with h1 | h1
    · exact h.lt.1 b h1
    · exact h.lt.2 b h1)
  have HC := Lib.hid (fun (V : World) (hV : Kept [] w V) => show V.cell? ⟨n, 0, none⟩ = some (.pointer (some ⟨p, 0, none⟩)) ∧ V.cell? ⟨n, 1, none⟩ = some (.string N.name) ∧ V.cell? ⟨n, 2, none⟩ = some (.slice ia nI ic) ∧ V.cell? ⟨n, 3, none⟩ = some (.slice ra nR rc) ∧ V.cell? ⟨n, 4, none⟩ = some (.slice oa nO oc) ∧ V.cell? ⟨p, 0, none⟩ = some (.bool N.g.fold) ∧ V.cell? ⟨p, 1, none⟩ = some (.bool N.g.hash) from by
    have h2 := hp.c2
    have h3 := hp.c3
    have h4 := hp.c4
    rw [← hnI] at h2
    rw [← hnR] at h3
    rw [← hnO] at h4
    exact ⟨hV.cell hp.c0 (by simp), hV.cell hp.c1 (by simp), hV.cell h2 (by simp), hV.cell h3 (by simp), hV.cell h4 (by simp), hV.cell hb01.1 (by simp), hV.cell hb01.2 (by simp)⟩)
  have HLN := Lib.hid (World.block_lt_of_cell? _ _ hp.c0)
  have HND := Lib.hid (fun (V : World) (hV : Kept [] w V) => rneeded_c (h.kept0 hV) hf (by omega))
  unfold RBools at HND
  rw [HNL.out] at HND
  clear hck h hf hp hgr hb01 hnR hnI hnO
  go_enter Tryz.func11, Tryz.ntmps11; (try simp only [List.append])
  go_wp2_with fail
  refine HCK.out.mono ?_
  rintro e w1 ⟨rfl, k1⟩
  have K1 := Lib.hid k1
  clear k1
  obtain ⟨g0, g1, g2, g3, g4, b0, b1⟩ := HC.out _ K1.out
  have HNW := Lib.hid (fun (V : World) => new06 N.name N.g.fold N.g.hash V (by have := mayB_size HF.out.nm; omega) HF.out.nm)
  obtain ⟨nN, hnN⟩ : ∃ M, M = newN N.name N.g.fold N.g.hash := ⟨_, rfl⟩
  have HNN := Lib.hid (show nN = inTo N 0 from by rw [hnN, inTo_zero])
  rw [← hnN] at HNW
  clear hnN
  generalize N.g.fold = o1 at HNW b0
  generalize N.g.hash = o2 at HNW b1
  generalize N.name = nm at HNW g1
  go_upto_region 4 with (fail)
  go_region_held3 (fun V => V.cell? ⟨n, 0, none⟩ = some (.pointer (some ⟨p, 0, none⟩)) ∧ V.cell? ⟨n, 1, none⟩ = some (.string nm) ∧ V.cell? ⟨p, 0, none⟩ = some (.bool o1) ∧ V.cell? ⟨p, 1, none⟩ = some (.bool o2))
    (first | exact keep_4 (w := w1) (by (repeat (first | with_reducible exact Kept.refl _ _ | with_reducible apply Kept.drew | with_reducible apply Kept.drewN | with_reducible apply Kept.alloc | refine Kept.trans ?_ k4))) g0 g1 b0 b1 | go_keep)
    (first | (go_at_call 33; (with_reducible refine (HNW.out _).mono ?_); rintro e w4 ⟨n', F4, rfl, hn4, k4, hf4⟩))
  have NW4 := Lib.hid (show NowAt w w4 n' F4 [] (inTo N 0) from by
    have k0 : Kept [] w1 w4 := by (repeat (first | with_reducible exact Kept.refl _ _ | with_reducible apply Kept.drew | with_reducible apply Kept.drewN | with_reducible apply Kept.alloc | refine Kept.trans ?_ k4))
    refine ⟨by rw [← HNN.out]; exact hn4, K1.out.trans k0, fun b hb => ?_⟩
    rw [List.append_nil] at hb
    have h1 := hf4 b hb
    have h2 := K1.out.size
    have h3 : w1.heap.size ≤ b := h1
    omega)
  clear hn4 k4 hf4 HNW g0 g1 g2 g3 g4 b0 b1
  obtain ⟨g0, g1, g2, g3, g4, b0, b1⟩ := HC.out _ NW4.out.kept
  go_wp2_with fail
  clear g0 g1 g2 g3 g4 b0 b1
  go_loopw [7] (fun v wr => ∃ (m : Nat) (F1 R1 : List Nat), m ≤ nI ∧ v = .int .i64 m ∧ NowAt w wr n' F1 R1 (inTo N m)) (fun v _ => nI - (intOf v).toNat)
  case atStart => exact ⟨0, F4, [], Nat.zero_le _, rfl, NW4.out⟩
  case round =>
    obtain ⟨m, F1, R1, hm, rfl, hnow⟩ := hrel
    obtain ⟨wa, rfl⟩ : ∃ v : World, v = wr := ⟨_, rfl⟩
    have NW := Lib.hid hnow
    clear hnow
    obtain ⟨g0, g1, g2, g3, g4, b0, b1⟩ := HC.out _ NW.out.kept
    clear g0 g1 g3 b0 b1
    by_cases hlt : m < nI
    · clear g4
      have hri : m < ri.length := by rw [HRI.out]; exact hlt
      have hb : N.inb[m]? = some ri[m].b := by rw [← HP.out.im, List.getElem?_map, List.getElem?_eq_getElem hri]; rfl
      obtain ⟨gb, rfl, x0, x1⟩ := (HP.out.ib.kept0 NW.out.kept) m hri
      have hil := HF.out.ok.il _ (List.mem_of_getElem? hb)
      have HAI := Lib.hid (inTo_succ HF.out hb)
      have HMAY := Lib.hid hil.2.2.1
      have HB64 := Lib.hid hil.2.1
      have HIO := Lib.hid (inTo_ok HF.out m (by rw [← HNI.out]; omega))
      clear hil hb
      generalize ri[m] = r at *
      obtain ⟨⟨nm2, lits⟩, la, lc⟩ := r
      simp only at x0 x1 HMAY HAI HB64
      obtain ⟨ln, hln⟩ : ∃ ln, ln = lits.length := ⟨_, rfl⟩
      rw [← hln] at x1 HAI HB64
      have HAD := Lib.hid (fun (V : World) (hV : Kept [] wa V) => addin06 (NW.out.net.kept0 hV) ⟨by have := HIO.out.1; omega, by have := HIO.out.2; omega⟩ nm2 (by have := mayB_size HMAY.out; omega) (ln : Int) (by omega) (by have := HB64.out; omega))
      rw [HAI.out] at HAD
      have HL64 := Lib.hid (show ln ≤ 64 from HB64.out)
      have m0 : (0 : Int) ≤ (m : Int) := by omega
      have m1 : (m : Int) < (nI : Int) := by omega
      clear hri hln HAI HB64
      go_upto_region 11 with (fail)
      refine wp_region_still_tail 18 (by kernel_rfl) (by kernel_rfl) ?_
      simp only [List.take_succ_cons, List.take_zero, List.drop_succ_cons, List.drop_zero]
      repeat still_step
      refine wpStill_nil ?_
      change wpList _ _ _ _ _ wa.drew
      go_wp2_with fail
      refine (HAD.out _ (Kept.refl [] wa).drew).mono ?_
      rintro e w6 ⟨F6, R6, a6, c6, k6, rfl, hn6, hs6⟩
      have NW6 := Lib.hid ((NW.out.kept0 (show Kept [] wa wa.drew from (Kept.refl [] wa).drew)).step hn6 hs6)
      clear hn6 hs6 g2 x0 x1 HAD
      go_wp2_with fail
      go_roundw
      case rel => exact ⟨m + 1, F6, R6, by omega, by go_num, NW6.out⟩
      case measure => simp [intOf]; omega
    · obtain rfl : nI = m := by omega
      have NW5 := Lib.hid (show NowAt w wa n' F1 R1 (regTo N 0) from by rw [regTo_zero, ← HNI.out]; exact NW.out)
      go_wp2_with fail
      clear g2 g4
      go_loopw [6, 8] (fun v i wr => ∃ (m : Nat) (a : Option Addr) (c : Nat), m ≤ nO ∧ i = .int .i64 m ∧ v = .slice a (outsTo N m).length c ∧ Own wr 46 a (outsTo N m).length c (nats .u32 (outsTo N m)) ∧ Stepped wa wr [] (ft a)) (fun _ i _ => nO - (intOf i).toNat)
      case atStart => exact ⟨0, none, 0, Nat.zero_le _, rfl, rfl, Own.nil _ _, .refl _ _⟩
      case round =>
        obtain ⟨m, a, c, hm, rfl, rfl, ho, hst⟩ := hrel
        obtain ⟨wb, rfl⟩ : ∃ v : World, v = wr := ⟨_, rfl⟩
        have HO := Lib.hid ho
        have ST := Lib.hid hst
        have KR := Lib.hid (NW5.out.kept.trans hst.kept)
        clear ho hst
        obtain ⟨g0, g1, g2, g3, g4, b0, b1⟩ := HC.out _ KR.out
        clear g0 g1 g2 b0 b1
        by_cases hlt : m < nO
        · clear g3
          have hml : m < ro.length := by rw [HRO.out]; exact hlt
          obtain ⟨ob, rfl, x0, x1⟩ := (HP.out.ob.kept0 KR.out) m hml
          have hrow := (HP.out.or _ (List.getElem_mem hml)).kept0 KR.out
          have hbo : N.outb[m]? = some ro[m].b := by rw [← HP.out.om, List.getElem?_map, List.getElem?_eq_getElem hml]; rfl
          have hT := outsTo_succ hbo
          have hol := HF.out.ok.ol _ (List.mem_of_getElem? hbo)
          have hl64 := hol.2.1
          have hl1 := hol.1
          have hlen := outsTo_len HF.out m
          clear hbo hol
          generalize ro[m] = r at *
          obtain ⟨⟨nm2, lits⟩, ra2, rc2⟩ := r
          simp only at x0 x1 hrow hT hl64 hl1
          obtain ⟨ad, had⟩ : ∃ ad, ra2 = some ad := by
            obtain ⟨ad, h, _⟩ := hrow 0 hl1
            exact ⟨ad, h⟩
          subst had
          obtain ⟨ln, hln⟩ : ∃ ln, ln = lits.length := ⟨_, rfl⟩
          obtain ⟨ol, hol⟩ : ∃ ol, ol = (outsTo N m).length := ⟨_, rfl⟩
          have HLN2 := Lib.hid hln
          have HOL := Lib.hid hol
          rw [← hln] at x1 hl64
          rw [← hol] at hlen
          have ho2 := HO.out
          rw [← hol] at ho2
          have HCL := Lib.hid (news_of hrow)
          have HT := Lib.hid hT
          have m0 : (0 : Int) ≤ (m : Int) := by omega
          have m1 : (m : Int) < (nO : Int) := by omega
          rw [← hol]
          clear hrow hT hln hol hl1 x0
          go_wp2_with (at_builtin; refine wpList_cat (news := nats .u32 lits) rfl rfl Tryz.underlying87 u32_info rfl (by omega) rfl rfl ho2 (by rw [nats_length, HLN2.out, Nat.mul_one]) HCL.out (by intro u hu; simp [nats] at hu; obtain ⟨_, _, rfl⟩ := hu; rfl) (by unfold maxLen; omega) (by omega) ?_; intro a5 c5 w5 hown5 hst5)
          have hlen2 : (outsTo N (m + 1)).length = ol + ln := by rw [HT.out, List.length_append, ← HOL.out, ← HLN2.out]
          have HL2 := Lib.hid hlen2
          clear hlen2 ho2
          go_roundw
          case rel => exact ⟨m + 1, a5, c5, by omega, by go_num, by rw [HL2.out], by rw [HL2.out, HT.out, show nats .u32 (outsTo N m ++ lits) = nats .u32 (outsTo N m) ++ nats .u32 lits from by simp [nats]]; exact hown5, ST.out.trans hst5⟩
          case measure => simp [intOf]; omega
        · obtain rfl : nO = m := by omega
          have HE := Lib.hid (show outsTo N nO = wantTo N 0 from by rw [HNO.out, outsTo_all]; simp [wantTo, goingTo])
          have HWL := Lib.hid (show (wantTo N 0).length = (outsTo N nO).length from by rw [HE.out])
          have HO2 := Lib.hid (show Own wb 46 a (outsTo N nO).length c (nats .u32 (wantTo N 0)) from by rw [← HE.out]; exact HO.out)
          obtain ⟨tl0, htl0⟩ : ∃ x, x = (outsTo N nO).length := ⟨_, rfl⟩
          rw [← htl0] at HWL HO2 ⊢
          have hlen := outsTo_len HF.out nO
          have HTB := Lib.hid (show tl0 ≤ 25600 from by rw [htl0]; omega)
          have NWB := Lib.hid (NW5.out.kept0 ST.out.kept)
          have HAN := Lib.hid (show ∀ x ∈ ft a, w.heap.size ≤ x ∧ x ∉ R1 from fun x hx => (ST.out.fresh x hx).elim (by simp) (fun h => ⟨Nat.le_trans NW5.out.kept.size h, fun hr => by have h1 := NW5.out.net.lt.2 x hr; omega⟩))
          clear htl0 hlen HO HE
          go_wp2_with fail
          refine (HND.out _ KR.out).mono ?_
          rintro e w7 ⟨gb, rfl, ho7, k7, hge7⟩
          have NW7 := Lib.hid (NWB.out.kept0 k7)
          have HO7 := Lib.hid (HO2.out.kept0 k7)
          have HB7 := Lib.hid ho7
          clear g3 g4 ho7 k7 hge7
          go_wp2_with fail
          go_loopw [6, 10, 11] (fun v u iv wr => ∃ (j tl : Nat) (F3 : List Nat) (a : Option Addr) (c : Nat) (a2 : Option Addr) (c2 : Nat), j ≤ nR ∧ iv = .int .i64 j ∧ v = .slice a tl c ∧ u = .slice a2 j c2 ∧ Hid ((wantTo N j).length = tl) ∧ Rows3 w wr n' gb nR N (regTo N j) F3 R1 (wantTo N j) (standL N j) a c tl a2 c2 j) (fun _ _ iv _ => nR - (intOf iv).toNat)
          case atStart => exact ⟨0, tl0, F1, a, c, none, 0, Nat.zero_le _, rfl, rfl, rfl, Lib.hid HWL.out, HO7.out, Own.nil _ _, HB7.out, NW7.out, fun x hx => ⟨(HAN.out x hx).1, (HAN.out x hx).2, by simp [ft]⟩, by simp [ft]⟩
          case round =>
            obtain ⟨j, tl, F3, a', c', a2, c2, hj, rfl, rfl, rfl, htl, hr3⟩ := hrel
            obtain ⟨wc, rfl⟩ : ∃ v : World, v = wr := ⟨_, rfl⟩
            have TL := Lib.hid htl.out
            have R3 := Lib.hid hr3
            clear htl hr3
            obtain ⟨g0, g1, g2, g3, g4, b0, b1⟩ := HC.out _ R3.out.nw.kept
            clear g1 g2 g4 b0 b1
            by_cases hlt : j < nR
            · clear g0
              have hjl : j < N.regs.length := by rw [← HNR.out]; exact hlt
              obtain ⟨qb, rfl, e0, e1, e2, e3⟩ := (HP.out.rb.kept0 R3.out.nw.kept) j hjl
              have hgd : N.regs.getD j ⟨0, 0, 0, false⟩ = N.regs[j]'hjl := by rw [List.getD_eq_getElem?_getD, List.getElem?_eq_getElem hjl]; rfl
              have HGB := Lib.hid (show goesB N j = ((neededN N).getD j false && !stuckR (N.regs.getD j ⟨0, 0, 0, false⟩)) from rfl)
              have HSR := Lib.hid (show standR N j = if goesB N j then 2 * (1 + inMany N.inb + (goingTo N j).length) else firstR (N.regs.getD j ⟨0, 0, 0, false⟩) from rfl)
              have HRS := Lib.hid (fun h => regTo_succ (N := N) (j := j) h)
              have HWS := Lib.hid (fun h => wantTo_succ (N := N) (j := j) h)
              have HOKJ := Lib.hid (regTo_ok HF.out j (by omega))
              have hwl := wantTo_len N j
              have hgo := goingTo_length N j
              have hol := outsTo_len HF.out N.outb.length
              rw [outsTo_all] at hol
              rw [TL.out] at hwl
              have HTB2 := Lib.hid (show tl ≤ 30000 from by have h1 := HF.out.ok.ok; omega)
              have htlb : tl ≤ 30000 := HTB2.out
              clear hwl hgo hol
              rw [hgd] at HGB HSR HRS HWS
              have HDV := Lib.hid (show N.regs[j].d < 4294967296 ∧ N.regs[j].en < 4294967296 from by have hrl := HF.out.ok.rl _ (List.getElem_mem hjl); have h1 := hrl.2.1; have h2 := hrl.2.2; have h3 := HGL.out; unfold Gr.ok at h1 h2; omega)
              generalize N.regs[j] = r at *
              obtain ⟨q, d, en, init⟩ := r
              simp only at e0 e1 e2 e3 HRS HWS HDV
              have HSC := Lib.hid (fun V => rstuck_c ⟨q, d, en, init⟩ V)
              have HFC := Lib.hid (fun V => rfirst_c ⟨q, d, en, init⟩ V)
              unfold rgV at HSC HFC
              simp only at HSC HFC
              obtain ⟨sb, hsb⟩ : ∃ b, b = stuckR ⟨q, d, en, init⟩ := ⟨_, rfl⟩
              obtain ⟨fr, hfr⟩ : ∃ b, b = firstR ⟨q, d, en, init⟩ := ⟨_, rfl⟩
              rw [← hsb] at HSC HGB
              rw [← hfr] at HFC HSR
              have j0 : (0 : Int) ≤ (j : Int) := by omega
              have j1 : (j : Int) < (nR : Int) := by omega
              clear hgd hsb hfr
              go_upto_region 22 with (fail)
              obtain ⟨w5, hw5⟩ : ∃ v, v = wc.alloc (.cells #[.int .u32 (q : Int), .int .u32 (d : Int), .int .u32 (en : Int), .bool init] 48) := ⟨_, rfl⟩
              obtain ⟨b5, hb5⟩ : ∃ v, v = wc.heap.size := ⟨_, rfl⟩
              have K5 := Lib.hid (show Kept [] wc w5 from by rw [hw5]; exact (Kept.refl [] wc).alloc _)
              have hbl : w5.heap[b5]? = some (.cells #[.int .u32 (q : Int), .int .u32 (d : Int), .int .u32 (en : Int), .bool init] 48 (0, 0)) := by rw [hw5, hb5]; exact heap_alloc_new wc _
              have HB5 := Lib.hid (show wc.heap.size ≤ b5 from by rw [hb5]; exact Nat.le_refl _)
              rw [← hw5, ← hb5]
              have HBL := Lib.hid (fun (V : World) (hV : Kept [] w5 V) => And.intro (hV.cell (blk_cell hbl 0) (by simp)) (And.intro (hV.cell (blk_cell hbl 1) (by simp)) (And.intro (hV.cell (blk_cell hbl 2) (by simp)) (hV.cell (blk_cell hbl 3) (by simp)))))
              have HBK := Lib.hid hbl
              obtain ⟨d0, d1, d2, d3⟩ := HBL.out _ (Kept.refl [] w5)
              simp at d0 d1 d2 d3
              clear hw5 hb5 hbl e0 e1 e2 e3 hjl g3
              go_wp2_with fail
              refine (HFC.out _).mono ?_
              rintro e w6 ⟨rfl, k6⟩
              have K6 := Lib.hid (show Kept [] w5 w6 from by (repeat (first | with_reducible exact Kept.refl _ _ | with_reducible apply Kept.drew | refine Kept.trans ?_ k6)))
              clear k6 d0 d1 d2 d3
              have cgd := own_cell_b (R3.out.ob.kept0 (K5.out.trans K6.out)) j (by rw [HNL.out]; exact hlt)
              cases hb : (neededN N).getD j false with
              | false =>
                rw [hb] at cgd HGB
                have HG2 := Lib.hid (show goesB N j = false from by rw [HGB.out]; rfl)
                have HS2 := Lib.hid (show standL N (j + 1) = standL N j ++ [fr] from by rw [standL_succ, HSR.out, HG2.out]; rfl)
                have R6 := Lib.hid (R3.out.keep0 (K5.out.trans K6.out))
                have hos6 := R6.out.os
                clear hb HGB
                go_wp2_with (at_builtin; refine wpList_push rfl rfl Tryz.underlying87 u32_info rfl rfl rfl hos6 rfl (by unfold maxLen; omega) (by omega) ?_; intro a8 c8 w8 hown8 hst8)
                have R8 := Lib.hid (R6.out.pushS (by rw [nats_append] at hown8; rw [← HS2.out] at hown8; exact hown8) hst8)
                clear hown8 hst8 hos6
                go_roundw
                case rel => exact ⟨j + 1, tl, F3, a', c', a8, c8, by omega, by go_num, rfl, rfl, Lib.hid (by rw [wantTo_stay HG2.out]; exact TL.out), by rw [wantTo_stay HG2.out, regTo_stay HG2.out]; exact R8.out⟩
                case measure => simp [intOf]; omega
              | true =>
                rw [hb] at cgd HGB
                have HG2 := Lib.hid (show goesB N j = !sb from by rw [HGB.out]; rfl)
                obtain ⟨d0, d1, d2, d3⟩ := HBL.out _ K6.out
                simp at d0 d1 d2 d3
                clear hb HGB
                go_wp2_with fail
                refine (HSC.out _).mono ?_
                rintro e w7 ⟨rfl, k7⟩
                have K7 := Lib.hid (show Kept [] w5 w7 from K6.out.trans (by (repeat (first | with_reducible exact Kept.refl _ _ | with_reducible apply Kept.drew | refine Kept.trans ?_ k7))))
                have K56 := Lib.hid (K5.out.trans K7.out)
                clear k7 d0 d1 d2 d3 cgd
                cases sb with
                | true =>
                  have HG3 := Lib.hid (show goesB N j = false from by rw [HG2.out]; rfl)
                  have HS2 := Lib.hid (show standL N (j + 1) = standL N j ++ [fr] from by rw [standL_succ, HSR.out, HG3.out]; rfl)
                  have R6 := Lib.hid (R3.out.keep0 K56.out)
                  have hos6 := R6.out.os
                  go_wp2_with (at_builtin; refine wpList_push rfl rfl Tryz.underlying87 u32_info rfl rfl rfl hos6 rfl (by unfold maxLen; omega) (by omega) ?_; intro a8 c8 w8 hown8 hst8)
                  have R8 := Lib.hid (R6.out.pushS (by rw [nats_append] at hown8; rw [← HS2.out] at hown8; exact hown8) hst8)
                  clear hown8 hst8 hos6
                  go_roundw
                  case rel => exact ⟨j + 1, tl, F3, a', c', a8, c8, by omega, by go_num, rfl, rfl, Lib.hid (by rw [wantTo_stay HG3.out]; exact TL.out), by rw [wantTo_stay HG3.out, regTo_stay HG3.out]; exact R8.out⟩
                  case measure => simp [intOf]; omega
                | false =>
                  have HG3 := Lib.hid (show goesB N j = true from by rw [HG2.out]; rfl)
                  have HRG := Lib.hid (HRS.out HG3.out)
                  have HWT := Lib.hid (HWS.out HG3.out)
                  obtain ⟨z, hz⟩ : ∃ z, z = 2 * (1 + inMany N.inb + (goingTo N j).length) := ⟨_, rfl⟩
                  have HS2 := Lib.hid (show standL N (j + 1) = standL N j ++ [z] from by rw [standL_succ, HSR.out, HG3.out, if_pos rfl, hz])
                  rw [← hz] at HRG
                  have HAR := Lib.hid (fun (V : World) (hV : Kept [] wc V) => addreg06 (R3.out.nw.net.kept0 hV) ⟨by have := HOKJ.out.1; omega, by have := HOKJ.out.2; omega⟩ init)
                  rw [HRG.out] at HAR
                  obtain ⟨d0, d1, d2, d3⟩ := HBL.out _ K7.out
                  simp at d0 d1 d2 d3
                  clear hz HRS HWS
                  go_wp2_with fail
                  refine (HAR.out _ K56.out).mono ?_
                  rintro e w8 ⟨F8, rfl, hn8, hs8⟩
                  have HN5 := Lib.hid (show b5 ∉ F3 from fun hx => by have h1 := R3.out.nw.net.lt.1 b5 hx; have h2 := HB5.out; omega)
                  have R8 := Lib.hid ((R3.out.keep0 K56.out).net hn8 hs8)
                  have hbk8 := hs8.st.kept.heap (K7.out.heap HBK.out (by simp)) HN5.out
                  have e1 : w8.cell? ⟨b5, 1, none⟩ = some (.int .u32 (d : Int)) := blk_cell hbk8 1
                  have e2 : w8.cell? ⟨b5, 2, none⟩ = some (.int .u32 (en : Int)) := blk_cell hbk8 2
                  have HN5a := Lib.hid (show b5 ∉ ft a' from blk_apart hbk8 R8.out.ot (by decide))
                  clear hn8 hs8 hbk8 d0 d1 d2 d3 HAR
                  have hot8 := fun o => R8.out.ot.kept0 ((Kept.refl [] w8).alloc o)
                  go_wp2_with (first
                    | (at_builtin; refine wpList_push rfl rfl Tryz.underlying87 u32_info rfl rfl rfl hos9 rfl (by unfold maxLen; omega) (by omega) ?_; intro a10 c10 w10 hown10 hst10)
                    | (at_builtin; refine wpList_cat (news := nats .u32 [d, en]) rfl rfl Tryz.underlying87 u32_info rfl (by omega) rfl rfl (hot8 _) (by rw [nats_length]; rfl) (news_of (sln_new _ .u32 [d, en] 46)) (nats_one _ _) (by unfold maxLen; omega) (by omega) ?_; intro a9 c9 w9 hown9 hst9; have R9 := Lib.hid (R8.out.pushT (T' := wantTo N (j + 1)) (by rw [HWT.out, show nats .u32 (wantTo N j ++ [d, en]) = nats .u32 (wantTo N j) ++ nats .u32 [d, en] from by simp [nats]]; exact hown9) (st_alloc hst9)); have hos9 := R9.out.os; clear hown9 hst9 hot8))
                  have R10 := Lib.hid (R9.out.pushS (S' := standL N (j + 1)) (by rw [nats_append] at hown10; rw [← HS2.out] at hown10; exact hown10) hst10)
                  clear hown10 hst10 hos9 e1 e2
                  go_roundw
                  case rel => exact ⟨j + 1, tl + 2, F8, a9, c9, a10, c10, by omega, by go_num, rfl, rfl, Lib.hid (by rw [HWT.out, List.length_append, TL.out]; rfl), R10.out⟩
                  case measure => simp [intOf]; omega
            · obtain rfl : nR = j := by omega
              have RW := Lib.hid (show Rows3 w wc n' gb nR N (regTo N N.regs.length) F3 R1 (wantedN N) (standL N nR) a' c' tl a2 c2 nR from by
                have h1 := R3.out
                rw [show wantTo N nR = wantedN N from by rw [HNR.out]; exact wantTo_all N, show regTo N nR = regTo N N.regs.length from by rw [HNR.out]] at h1
                exact h1)
              have TW := Lib.hid (show (wantedN N).length = tl from by rw [← wantTo_all, ← HNR.out]; exact TL.out)
              have HTLB := Lib.hid (show tl ≤ 30000 from by
                have hwl := wantTo_len N N.regs.length
                have hgo := goingTo_length N N.regs.length
                have hol := outsTo_len HF.out N.outb.length
                rw [outsTo_all] at hol
                rw [wantTo_all, TW.out] at hwl
                have h1 := HF.out.ok.ok
                have h2 := HF.out.ok.rk
                omega)
              clear TL R3
              obtain ⟨p', G', c0', hnG', hGF', hgr', hstep'⟩ := RW.out.nw.graph
              have HST' := Lib.hid (fun (w1 w2 : World) (G2 : List Nat) (g2 : Gr) (hk : Kept [] wc w1) (hg : RefAt w2 p' G2 g2) (hs : Stepped w1 w2 G' G2) => hstep' hk hg hs)
              have HNG := Lib.hid hnG'
              have HNN' := Lib.hid (show n ∉ G' from fun hx => by have h1 := RW.out.nw.newF n (hGF' n hx); have h2 : n < w.heap.size := HLN.out; omega)
              obtain ⟨nB, hnB⟩ : ∃ x, x = (byN N).length := ⟨_, rfl⟩
              have HNB := Lib.hid (show nB = (ins N.g.nodes).length from by rw [hnB]; unfold byN; rw [List.length_map])
              have HSD := Lib.hid (fun (V : World) (hV : Kept [] wc V) => stands_c (HH.out.kept0 (RW.out.nw.kept.trans hV)) HF.out (by omega) (RW.out.nw.net.kept0 hV) rfl a2 c2 nR (standL N nR) HNR.out (standL_length N nR) (fun i hi => standL_get N (by rw [HNR.out]; exact hi)) ((RW.out.os.kept0 hV).sln))
              unfold RLits at HSD
              rw [← hnB] at HSD
              have HCP := Lib.hid (fun (V : World) (hV : Kept [] wc V) (sa2 : Option Addr) (sc2 : Nat) (ho : Own V 46 sa2 nB sc2 (nats .u32 (byN N))) => show Calls Tryz.prog 46 #[.pointer (some ⟨p', 0, none⟩), .pointer (some ⟨p, 0, none⟩), .slice sa2 nB sc2, .slice a' tl c'] V (RCopyRow (copyN N) (wantedN N) V p' G') from by
                have hb := regTo_ok HF.out N.regs.length (Nat.le_refl _)
                refine rcopy_c (hgr'.kept0 hV) (HGR.out.kept0 (RW.out.nw.kept.trans hV)) (fun x hx hx' => ?_) (by omega) (by have := HGL.out; omega) sa2 sc2 nB (byN N) hnB.symm HNB.out ho.sln (byN_ok N) (fun x hx hx' => ?_) a' c' tl (wantedN N) TW.out (by have := HTLB.out; omega) ((RW.out.ot.kept0 hV).sln) (wanted_ok HF.out) (fun x hx hx' => ?_)
                · have h1 := RW.out.nw.newF x (hGF' x hx')
                  have h2 := HGR.out.lt x hx
                  omega
                · exact rnet_lits (RW.out.nw.net.kept0 hV) ho x hx (hGF' x hx')
                · exact rnet_lits RW.out.nw.net RW.out.ot x hx (hGF' x hx'))
              unfold RCopyRow at HCP
              rw [TW.out] at HCP
              clear hnB hgr' hstep' hnG'
              go_upto_region 27 with (fail)
              go_region_held3 (fun V => V.cell? ⟨n', 0, none⟩ = some (.pointer (some ⟨p', 0, none⟩)) ∧ V.cell? ⟨n, 0, none⟩ = some (.pointer (some ⟨p, 0, none⟩)))
                (first | exact keep_2f (w := wc) (F := G') (by (repeat (first | with_reducible exact Kept.refl _ _ | with_reducible apply Kept.drew | with_reducible apply Kept.drewN | with_reducible apply Kept.alloc | refine Kept.trans ?_ k5 | refine Kept.trans ?_ (k2.more (by simp))))) c0' g0 HNG.out HNN'.out | go_keep)
                (first
                  | (go_at_call 47; (with_reducible refine (HSD.out _ ?kk).mono ?_); (case kk => ((repeat (first | with_reducible exact Kept.refl _ _ | with_reducible apply Kept.drew | with_reducible apply Kept.drewN | with_reducible apply Kept.alloc | refine Kept.trans ?_ k2)))); rintro e u2 ⟨sa2, sc2, rfl, hos2, k2, hfs⟩)
                  | (go_at_call 46; (with_reducible refine (HCP.out _ ?kk _ _ ?ko).mono ?_); (case kk => ((repeat (first | with_reducible exact Kept.refl _ _ | with_reducible apply Kept.drew | with_reducible apply Kept.drewN | with_reducible apply Kept.alloc | refine Kept.trans ?_ k2)))); (case ko => (exact hos2.kept0 (by (repeat (first | with_reducible exact Kept.refl _ _ | with_reducible apply Kept.drew | with_reducible apply Kept.drewN | with_reducible apply Kept.alloc))))); rintro e w5 ⟨F5, a5, c5, rfl, hg5, ho5, hs5, hf5⟩; have k5 := hs5.kept))
              obtain ⟨F6, hnw6, hst6⟩ := HST'.out _ _ _ _ (show Kept [] wc _ from (by (repeat (first | with_reducible exact Kept.refl _ _ | with_reducible apply Kept.drew | with_reducible apply Kept.drewN | with_reducible apply Kept.alloc | refine Kept.trans ?_ k2)))) hg5 hs5
              have NW6 := Lib.hid (show NowAt w w5 n' F6 R1 (outTo N 0) from by rw [outTo_zero]; exact hnw6)
              have HO5 := Lib.hid (show Own w5 46 a5 tl c5 (nats .u32 (rowN N)) from ho5)
              have HTLR := Lib.hid (show (rowN N).length = tl from by unfold rowN; rw [List.length_map]; exact TW.out)
              have HCAP := Lib.hid (own_cap HO5.out)
              have HOL := Lib.hid (show ∀ y, overL (copyN N).2 y < 4294967296 from fun y => by
                have h1 := over_ok N y
                have h2 := once_length HF.out
                have h3 := HF.out.ok.len
                unfold Gr.ok at h1
                omega)
              have htlb := HTLB.out
              clear hnw6 hst6 hg5 ho5 hs5 hf5 k5 k2 hos2 hfs g0 c0' HSD HCP HST'
              obtain ⟨g0, g1, g2, g3, g4, b0, b1⟩ := HC.out _ NW6.out.kept
              clear g0 g1 g2 g3 b0 b1
              go_wp2_with fail
              clear g4
              go_loopw [15, 16] (fun v i wr => ∃ (m t : Nat) (F1 R1 : List Nat), m ≤ nO ∧ i = .int .i64 m ∧ v = .int .i64 t ∧ Hid (t = (outLits N m).length) ∧ NowAt w wr n' F1 R1 (outTo N m) ∧ Own wr 46 a5 tl c5 (nats .u32 (rowN N))) (fun _ i _ => nO - (intOf i).toNat)
              case atStart => exact ⟨0, 0, F6, R1, Nat.zero_le _, rfl, rfl, Lib.hid (by simp [outLits]), NW6.out, HO5.out⟩
              case round =>
                obtain ⟨m, t, F7, R7, hm, rfl, rfl, ht, hnow, hown⟩ := hrel
                obtain ⟨wd, rfl⟩ : ∃ v : World, v = wr := ⟨_, rfl⟩
                have NW := Lib.hid hnow
                have HO := Lib.hid hown
                have HT := Lib.hid ht.out
                clear hnow hown ht
                obtain ⟨g0, g1, g2, g3, g4, b0, b1⟩ := HC.out _ NW.out.kept
                clear g0 g1 g2 g3 b0 b1
                by_cases hlt : m < nO
                · --ARM4
                  have hml : m < ro.length := by rw [HRO.out]; exact hlt
                  obtain ⟨ob, rfl, x0, x1⟩ := (HP.out.ob.kept0 NW.out.kept) m hml
                  have hbo : N.outb[m]? = some ro[m].b := by rw [← HP.out.om, List.getElem?_map, List.getElem?_eq_getElem hml]; rfl
                  have hol := HF.out.ok.ol _ (List.mem_of_getElem? hbo)
                  have HMAY := Lib.hid hol.2.2.1
                  have HL64 := Lib.hid hol.2.1
                  have HL1 := Lib.hid hol.1
                  have HAO := Lib.hid (outTo_succ HF.out hbo)
                  have HRH := Lib.hid (rowTo_head hbo)
                  have HNX := Lib.hid (show (outLits N (m + 1)).length = (outLits N m).length + ro[m].b.lits.length from by rw [outLits_next hbo, List.length_append])
                  clear hbo hol
                  generalize ro[m] = r at *
                  obtain ⟨⟨nm2, lits⟩, ra2, rc2⟩ := r
                  simp only at x0 x1 HMAY HL64 HL1 HAO HRH HNX
                  obtain ⟨ln, hln⟩ : ∃ ln, ln = lits.length := ⟨_, rfl⟩
                  have HLN2 := Lib.hid hln
                  rw [← hln] at x1 HL64 HL1 HRH HNX
                  have hle := HRH.out.2.2
                  unfold rowTo at hle
                  rw [List.length_drop, HTLR.out, ← HT.out] at hle
                  have HLE := Lib.hid (show t + ln ≤ tl from by have h1 : 1 ≤ ln := HL1.out; omega)
                  obtain ⟨ah, ch, hsh, hsl2, hch, hfh⟩ := slice_mid wd a5 tl c5 t (t + ln) (rowN N) (by omega) (by rw [HTLR.out]; exact HLE.out) HTLR.out.symm HCAP.out HO.out.sln
                  rw [Nat.add_sub_cancel_left] at hsl2 hsh
                  have HSH := Lib.hid (show SlN wd .u32 ah (lits.map (overL (copyN N).2)) from by
                    have h := HRH.out.1
                    unfold rowTo at h
                    rw [← HT.out] at h
                    rw [← h]
                    exact hsl2)
                  obtain ⟨z, hz⟩ : ∃ z, z = t + ln := ⟨_, rfl⟩
                  have HZ := Lib.hid hz
                  have hl64 : ln ≤ 64 := HL64.out
                  have hlee := HLE.out
                  rw [← hz] at hsh
                  have w1' : IntKind.i64.wrap ((t : Int) + (ln : Int)) = (z : Int) := by rw [IntWalk.i64_in _ (by omega)]; omega
                  have HAD := Lib.hid (fun (V : World) (hV : Kept [] wd V) => addout06 (NW.out.net.kept0 hV) (by
                      have h1 := once_length HF.out
                      have h2 := HF.out.ok.len
                      have h3 : (outTo N m).g.nodes.length = (onceN N).g.nodes.length := rfl
                      have h4 : (outTo N m).outb.length ≤ N.outb.length := by
                        show ((N.outb.take m).map _).length ≤ _
                        rw [List.length_map, List.length_take]; omega
                      have h5 := HF.out.ok.ok
                      omega) nm2 (by have := mayB_size HMAY.out; omega) ah ch ln (lits.map (overL (copyN N).2)) (by rw [List.length_map, HLN2.out]) (by omega) (HSH.out.kept0 hV) (fun x hx => by
                      obtain ⟨y, _, rfl⟩ := List.mem_map.1 hx
                      exact HOL.out y))
                  rw [HAO.out] at HAD
                  have m0 : (0 : Int) ≤ (m : Int) := by omega
                  have m1 : (m : Int) < (nO : Int) := by omega
                  clear hml hln hle hsl2 hch hfh hz
                  go_upto_region 35 with (fail)
                  refine wp_region_still_tail 15 (by kernel_rfl) (by kernel_rfl) ?_
                  simp only [List.take_succ_cons, List.take_zero, List.drop_succ_cons, List.drop_zero]
                  repeat still_step
                  refine wpStill_nil ?_
                  change wpList _ _ _ _ _ wd.drew
                  go_wp2_with fail
                  refine (HAD.out _ (Kept.refl [] wd).drew).mono ?_
                  rintro e w6 ⟨F8, R8, rfl, hn6, hs6⟩
                  have NW8 := Lib.hid ((NW.out.kept0 (show Kept [] wd wd.drew from (Kept.refl [] wd).drew)).step hn6 hs6)
                  have HO8 := Lib.hid ((NW.out.kept0 (show Kept [] wd wd.drew from (Kept.refl [] wd).drew)).own hs6 (HO.out.kept0 (show Kept [] wd wd.drew from (Kept.refl [] wd).drew)))
                  clear hn6 hs6 g4 x0 x1 HAD hsh
                  go_wp2_with fail
                  go_roundw
                  case rel => exact ⟨m + 1, z, F8, R8, by omega, by go_num, rfl, Lib.hid (by rw [HNX.out, ← HT.out]; exact HZ.out), NW8.out, HO8.out⟩
                  case measure => simp [intOf]; omega
                · obtain rfl : nO = m := by omega
                  have NWS := Lib.hid (show NowAt w wd n' F7 R7 (settTo N 0) from by rw [settTo_zero, ← HNO.out]; exact NW.out)
                  have HT0 := Lib.hid (show t = (outLits N N.outb.length).length from by rw [← HNO.out]; exact HT.out)
                  obtain ⟨nG, hnG⟩ : ∃ x, x = (goingL N).length := ⟨_, rfl⟩
                  have HNG2 := Lib.hid hnG
                  have hng : nG ≤ 400 := by
                    have h1 := goingTo_length N N.regs.length
                    have h2 := HF.out.ok.rk
                    unfold goingL at hnG
                    omega
                  obtain ⟨p2, ia2, ic2, ra2, rc2, oa2, oc2, ri2, ro2, hp2⟩ := rnet_parts NWS.out.net
                  have c3 := hp2.c3
                  rw [settTo_len N 0 (Nat.zero_le _), ← hnG] at c3
                  clear hp2 hnG HT NW HO5
                  go_wp2_with fail
                  clear g4 c3
                  go_loopw [15, 18] (fun v i wr => ∃ (j t1 : Nat) (F1 R1 : List Nat), j ≤ nG ∧ i = .int .i64 j ∧ v = .int .i64 t1 ∧ Hid (t1 = t + 2 * j) ∧ NowAt w wr n' F1 R1 (settTo N j) ∧ Own wr 46 a5 tl c5 (nats .u32 (rowN N))) (fun _ i _ => nG - (intOf i).toNat)
                  case atStart => exact ⟨0, t, F7, R7, Nat.zero_le _, rfl, rfl, Lib.hid rfl, NWS.out, HO.out⟩
                  case round =>
                    obtain ⟨j, t1, F8, R8, hj, rfl, rfl, ht1, hnow, hown⟩ := hrel
                    obtain ⟨we, rfl⟩ : ∃ v : World, v = wr := ⟨_, rfl⟩
                    have NW := Lib.hid hnow
                    have HO6 := Lib.hid hown
                    have HT1 := Lib.hid ht1.out
                    clear hnow hown ht1
                    have hjn : j ≤ (goingL N).length := by rw [← HNG2.out]; exact hj
                    obtain ⟨p2, ia2, ic2, ra2, rc2, oa2, oc2, ri2, ro2, hp2⟩ := rnet_parts NW.out.net
                    have c3 := hp2.c3
                    rw [settTo_len N j hjn, ← HNG2.out] at c3
                    by_cases hlt : j < nG
                    · --ARM5
                      have hjl : j < (goingL N).length := by rw [← HNG2.out]; exact hlt
                      have hget := List.getElem?_eq_getElem hjl
                      have htw := row_two N hget
                      have hsg := settTo_get N (j := j) (i := j) (Nat.le_of_lt hjl) hget
                      have HSS := Lib.hid (settTo_succ N hget)
                      have hlr : j < (settTo N j).regs.length := by rw [settTo_len N j hjn]; exact hjl
                      obtain ⟨gr, rfl, e0, e1, e2, e3⟩ := hp2.rb j hlr
                      obtain ⟨hx1, hx2⟩ := List.getElem?_eq_some_iff.1 hsg
                      rw [if_neg (Nat.lt_irrefl j)] at hx2
                      rw [hx2] at e0
                      simp only at e0
                      obtain ⟨t2, ht2⟩ : ∃ t2, t2 = t1 + 1 := ⟨_, rfl⟩
                      rw [← HT0.out, ← HT1.out, show t + (2 * j + 1) = t2 from by have := HT1.out; omega] at htw
                      clear e1 e2 e3 hx1 hx2 hsg hp2
                      generalize (goingL N)[j] = r at *
                      obtain ⟨y1, z1⟩ := List.getElem?_eq_some_iff.1 htw.1
                      obtain ⟨y2, z2⟩ := List.getElem?_eq_some_iff.1 htw.2
                      obtain ⟨ad, rfl, hv1⟩ := HO6.out.sln t1 y1
                      obtain ⟨ad', had, hv2⟩ := HO6.out.sln t2 y2
                      injection had with had
                      subst had
                      rw [z1] at hv1
                      rw [z2] at hv2
                      rw [HTLR.out] at y1 y2
                      obtain ⟨q, hq⟩ : ∃ x, x = 2 * (1 + inMany N.inb + j) := ⟨_, rfl⟩
                      have HQL := Lib.hid (show q < 4294967296 from by
                        have h2 := inMany_len HF.out N.inb.length
                        rw [List.take_length] at h2
                        have h3 := HF.out.ok.ik
                        omega)
                      rw [← hq] at e0 HSS
                      have HSK := Lib.hid (fun (V : World) (hV : Kept [] we V) => setreg06 (NW.out.net.kept0 hV) (by
                          have h1 := once_length HF.out
                          have h2 := HF.out.ok.len
                          have h3 : (settTo N j).g.nodes.length = (onceN N).g.nodes.length := rfl
                          have h4 := settTo_len N j hjn
                          have h5 := HNG2.out
                          omega) q (overL (copyN N).2 r.d) (overL (copyN N).2 r.en) HQL.out (HOL.out _) (HOL.out _))
                      rw [HSS.out] at HSK
                      generalize overL (copyN N).2 r.d = xd at *
                      generalize overL (copyN N).2 r.en = xe at *
                      have j0 : (0 : Int) ≤ (j : Int) := by omega
                      have j1 : (j : Int) < (nG : Int) := by omega
                      have w2' : IntKind.i64.wrap ((t1 : Int) + 1) = (t2 : Int) := by rw [IntWalk.i64_in _ (by omega)]; omega
                      have b1' : (0 : Int) ≤ (t1 : Int) := by omega
                      have b2' : (t1 : Int) < (tl : Int) := by omega
                      have b3' : (0 : Int) ≤ (t2 : Int) := by omega
                      have b4' : (t2 : Int) < (tl : Int) := by omega
                      have HT2 := Lib.hid ht2
                      clear hjl hget htw hlr hq ht2 hjn
                      go_upto_region 40 with (fail)
                      refine wp_region_still_tail 18 (by kernel_rfl) (by kernel_rfl) ?_
                      simp only [List.take_succ_cons, List.take_zero, List.drop_succ_cons, List.drop_zero]
                      repeat still_step
                      refine wpStill_nil ?_
                      change wpList _ _ _ _ _ we.drew
                      go_wp2_with fail
                      refine (HSK.out _ (Kept.refl [] we).drew).mono ?_
                      rintro e w6 ⟨F9, R9, rfl, hn6, hs6⟩
                      have NW8 := Lib.hid ((NW.out.kept0 (show Kept [] we we.drew from (Kept.refl [] we).drew)).step hn6 hs6)
                      have HO8 := Lib.hid ((NW.out.kept0 (show Kept [] we we.drew from (Kept.refl [] we).drew)).own hs6 (HO6.out.kept0 (show Kept [] we we.drew from (Kept.refl [] we).drew)))
                      obtain ⟨t3, ht3⟩ : ∃ x, x = t1 + 2 := ⟨_, rfl⟩
                      have w3' : IntKind.i64.wrap ((t1 : Int) + 2) = (t3 : Int) := by rw [IntWalk.i64_in _ (by omega)]; omega
                      have HT3 := Lib.hid (show t3 = t + 2 * (j + 1) from by have := HT1.out; omega)
                      clear hn6 hs6 c3 e0 hv1 hv2 HSK w2' ht3
                      go_wp2_with fail
                      go_roundw
                      case rel => exact ⟨j + 1, t3, F9, R9, by omega, by go_num, rfl, Lib.hid HT3.out, NW8.out, HO8.out⟩
                      case measure => simp [intOf]; omega
                    · obtain rfl : nG = j := by omega
                      have HE := Lib.hid (show settTo N nG = onceN N from by rw [HNG2.out]; exact settTo_all N)
                      clear hp2
                      go_wp2_with fail
                      go_ret2
                      have h := NW.out
                      rw [HE.out] at h
                      exact ⟨n', F8, R8, rfl, h.net, h.kept, h.new⟩
end Go.Proofs.YtdmcdhkkbkgnbaaGreat
