/-
  Package sweep: what comes in, and registers (the sweeper's first step).
-/
import Derived.Test.YtdmcdhkkbkgnbaaGreatP27
namespace Go.Proofs.YtdmcdhkkbkgnbaaGreat
open Go.ChangeShapes Go.WideShapes Go.ChangeAt Go.RowKit
open Go.Maps (Keyed)
open Go.WideMaps
set_option linter.unusedVariables false
set_option linter.unusedSimpArgs false

variable {w w' W w0 : World} {p n n' k m s mp gd fb : Nat} {fcs : Array Value} {F R S F' R' F'' R'' : List Nat} {g : Gr} {N M M' : Nt} {φ ψ : Nat → Option Nat} {wl : List Nat}
theorem keep_3f {w w' : World} {F : List Nat} {a0 a1 a2 : Addr} {v0 v1 v2 : Value} (hk : Kept F w w') (h0 : w.cell? a0 = some v0) (h1 : w.cell? a1 = some v1) (h2 : w.cell? a2 = some v2) (n0 : a0.block ∉ F) (n1 : a1.block ∉ F) (n2 : a2.block ∉ F) : w'.cell? a0 = some v0 ∧ w'.cell? a1 = some v1 ∧ w'.cell? a2 = some v2 := ⟨hk.cell h0 n0, hk.cell h1 n1, hk.cell h2 n2⟩
theorem keep_5f {w w' : World} {F : List Nat} {a b i0 i1 i2 i3 i4 : Nat} {v0 v1 v2 v3 v4 : Value} (hk : Kept F w w') (h0 : w.cell? ⟨a, i0, none⟩ = some v0) (h1 : w.cell? ⟨b, i1, none⟩ = some v1) (h2 : w.cell? ⟨b, i2, none⟩ = some v2) (h3 : w.cell? ⟨b, i3, none⟩ = some v3) (h4 : w.cell? ⟨b, i4, none⟩ = some v4) (n0 : a ∉ F) (n1 : b ∉ F) :
    w'.cell? ⟨a, i0, none⟩ = some v0 ∧ w'.cell? ⟨b, i1, none⟩ = some v1 ∧ w'.cell? ⟨b, i2, none⟩ = some v2 ∧ w'.cell? ⟨b, i3, none⟩ = some v3 ∧ w'.cell? ⟨b, i4, none⟩ = some v4 := ⟨hk.cell h0 n0, hk.cell h1 n1, hk.cell h2 n1, hk.cell h3 n1, hk.cell h4 n1⟩
theorem keep_2f {w w' : World} {F : List Nat} {a0 a1 : Addr} {v0 v1 : Value} (hk : Kept F w w') (h0 : w.cell? a0 = some v0) (h1 : w.cell? a1 = some v1) (n0 : a0.block ∉ F) (n1 : a1.block ∉ F) : w'.cell? a0 = some v0 ∧ w'.cell? a1 = some v1 := ⟨hk.cell h0 n0, hk.cell h1 n1⟩
theorem mayB_size {s : ByteArray} (h : mayB s = true) : s.size ≤ 80 := by
  unfold mayB at h
  simp only [Bool.and_eq_true, decide_eq_true_eq] at h
  exact h.1.2
def InputsPost (w0 : World) (s n n' mp gd fb : Nat) (fcs : Array Value) (N : Nt) (w : World) (e : Ending) (w' : World) : Prop :=
  ∃ F' R', e = .returned (.int .i64 0) ∧ SwpAt w0 w' s n n' mp gd fb fcs F' R' N (regTo N N.regs.length) (regM N N.regs.length) (wantedN N)
set_option maxHeartbeats 6400000 in
set_option maxRecDepth 100000 in
theorem inputs_c (hN : NetAt w0 n F R N) (hf : NtFine k N) (hk : k ≤ 700) (h : SwpAt w0 w s n n' mp gd fb fcs F' R' N (newN N.name N.g.fold N.g.hash) (fun _ => none) []) :
    Calls Tryz.prog 41 #[.pointer (some ⟨s, 0, none⟩)] w (InputsPost w0 s n n' mp gd fb fcs N w) := by
  have HF := Lib.hid hf
  have HN := Lib.hid hN
  have HS0 := Lib.hid (show SwpAt w0 w s n n' mp gd fb fcs F' R' N (inTo N 0) (posM (litsTo N 0 0)) [] from by rw [inTo_zero, litsTo_zero, posM_nil]; exact h)
  obtain ⟨a0, c0, hs0, _, _⟩ := h.cs
  have cs0 : w.cell? ⟨s, 0, none⟩ = some (.pointer (some ⟨n, 0, none⟩)) := blk_cell hs0 0
  obtain ⟨pp, G, ia, ic, ra, rc, oa, oc, ri, ro, hFe, hRe, hc⟩ := hN
  have HC := Lib.hid hc
  obtain ⟨nI, hnI⟩ : ∃ m, m = N.inb.length := ⟨_, rfl⟩
  have HNI := Lib.hid hnI
  obtain ⟨nR, hnR⟩ : ∃ m, m = N.regs.length := ⟨_, rfl⟩
  have HNR := Lib.hid hnR
  have c2 := h.kept.cell hc.c2 (by simp)
  rw [← hnI] at c2
  have hni : nI ≤ 700 := by rw [hnI]; have := hf.ok.ik; omega
  have hnr : nR ≤ 700 := by rw [hnR]; have := hf.ok.rk; omega
  have HRI := Lib.hid (show ri.length = nI from by rw [hnI, ← hc.ib.is]; simp)
  clear hc hnI hnR hf h hs0 hFe hRe
  go_enter Tryz.func41, Tryz.ntmps41
  go_wp2_with fail
  clear cs0 c2
  go_loopw [21] (fun v wr => ∃ m F' R', m ≤ nI ∧ v = .int .i64 m ∧ SwpAt w0 wr s n n' mp gd fb fcs F' R' N (inTo N m) (posM (litsTo N m 0)) []) (fun v _ => nI - (intOf v).toNat)
  case atStart => exact ⟨0, F', R', Nat.zero_le _, rfl, HS0.out⟩
  case round =>
    obtain ⟨m, F1, R1, hm, rfl, hsw⟩ := hrel
    have SW := Lib.hid hsw
    clear hsw
    by_cases hlt : m < nI
    · have hml : m < ri.length := by rw [HRI.out]; exact hlt
      obtain ⟨gb, rfl, x0, x1⟩ := (HC.out.ib.slb.kept0 SW.out.kept) m hml
      have hrow := Lib.hid (HC.out.ib.rows _ (List.getElem_mem hml)).1
      have hbo : N.inb[m]? = some ri[m].b := by rw [← HC.out.ib.is, List.getElem?_map, List.getElem?_eq_getElem hml]; rfl
      have HBO := Lib.hid hbo
      have hil := HF.out.ok.il _ (List.mem_of_getElem? hbo)
      have HL1 := Lib.hid hil.1
      have HL64 := Lib.hid hil.2.1
      have HMAY := Lib.hid hil.2.2.1
      clear hbo hil
      generalize ri[m] = r at *
      obtain ⟨⟨nm, lits⟩, ra2, rc2⟩ := r
      simp only at x0 x1 hrow HBO HL1 HL64 HMAY
      obtain ⟨ln, hln⟩ : ∃ ln, ln = lits.length := ⟨_, rfl⟩
      have HLN := Lib.hid hln
      rw [← hln] at x1 HL1 HL64
      have m0 : (0 : Int) ≤ (m : Int) := by omega
      have m1 : (m : Int) < (nI : Int) := by omega
      clear hln hml
      go_upto_region 4 with (fail)
      obtain ⟨w4, hw4⟩ : ∃ v, v = wr.alloc (.cells #[.string nm, .slice ra2 ln rc2] 60) := ⟨_, rfl⟩
      obtain ⟨b4, hb4⟩ : ∃ v, v = wr.heap.size := ⟨_, rfl⟩
      have K4 := Lib.hid (show Kept [] wr w4 from by rw [hw4]; exact (Kept.refl [] wr).alloc _)
      have hbl4 : w4.heap[b4]? = some (.cells #[.string nm, .slice ra2 ln rc2] 60 (0, 0)) := by rw [hw4, hb4]; exact heap_alloc_new wr _
      have hge4 : wr.heap.size ≤ b4 := by rw [hb4]; exact Nat.le_refl _
      rw [← hw4, ← hb4]
      have SW4 := Lib.hid (SW.out.kept0 K4.out)
      obtain ⟨a4, c4, hs4, _, _⟩ := SW4.out.cs
      have d0 : w4.cell? ⟨b4, 0, none⟩ = some (.string nm) := blk_cell hbl4 0
      have d1 : w4.cell? ⟨b4, 1, none⟩ = some (.slice ra2 ln rc2) := blk_cell hbl4 1
      have d2 : w4.cell? ⟨s, 1, none⟩ = some (.pointer (some ⟨n', 0, none⟩)) := blk_cell hs4 1
      have n1 : b4 ∉ F1 := fun hx => by have := SW.out.net.lt.1 b4 hx; omega
      have n2 : s ∉ F1 := (SW.out.new s (by simp)).2.1
      have HN1 := Lib.hid n1
      have HN2 := Lib.hid n2
      have HBL4 := Lib.hid hbl4
      have HAI := Lib.hid (fun (V : World) (hV : Kept [] w4 V) => addin_c (SW4.out.net.kept0 hV) (by have := inTo_ok HF.out m (by rw [← HNI.out]; exact hm); omega) nm (by have := mayB_size HMAY.out; omega) (ln : Nat) (by have := HL64.out; omega) (by have := HL64.out; omega))
      have HTS := Lib.hid (inTo_succ HF.out HBO.out)
      simp only at HTS
      rw [← HLN.out] at HTS
      rw [HTS.out] at HAI
      clear hw4 hb4 hbl4 hge4 hs4 x0 x1 n1 n2 SW HTS
      go_region_held3 (fun w' => w'.cell? ⟨b4, 0, none⟩ = some (.string nm) ∧ w'.cell? ⟨b4, 1, none⟩ = some (.slice ra2 ln rc2) ∧ w'.cell? ⟨s, 1, none⟩ = some (.pointer (some ⟨n', 0, none⟩)))
        (first | exact keep_3f (w := w4) (F := F1) (by (repeat (first | with_reducible exact Kept.refl _ _ | with_reducible apply Kept.drew | with_reducible apply Kept.drewN | with_reducible apply Kept.alloc | refine Kept.trans ?_ k5))) d0 d1 d2 HN1.out HN1.out HN2.out | go_keep)
        (first | (go_at_call 91; (with_reducible refine (HAI.out _ ?kk).mono ?_); (case kk => ((repeat (first | with_reducible exact Kept.refl _ _ | with_reducible apply Kept.drew | with_reducible apply Kept.drewN | with_reducible apply Kept.alloc | refine Kept.trans ?_ k2)))); rintro e w5 ⟨F2, R2, a5, c5, l5, rfl, hn5, hs5, ho5, hf5⟩; have k5 := hs5.st.kept))
      have SW5 := Lib.hid ((SW4.out.kept0 (show Kept [] w4 w4.drew from (Kept.refl [] w4).drew)).step hn5 hs5)
      have hl5 : l5 = ln := by have := ho5.len; rw [nats_length, rowFrom_length] at this; omega
      subst hl5
      have HO5 := Lib.hid ho5
      have HBL5 := Lib.hid (k5.heap HBL4.out HN1.out)
      clear hn5 hs5 ho5 hf5 k5 d0 d1 d2
      have d1 : w5.cell? ⟨b4, 1, none⟩ = some (.slice ra2 l5 rc2) := blk_cell HBL5.out 1
      go_wp2_with fail
      clear d1
      have hl64 : l5 ≤ 64 := HL64.out
      go_loopw [44] (fun v w6 => ∃ i : Nat, i ≤ l5 ∧ v = .int .i64 i ∧ SwpAt w0 w6 s n n' mp gd fb fcs F2 R2 N (inTo N (m + 1)) (posM (litsTo N m i)) [] ∧ Kept [mp] w5 w6) (fun v _ => l5 - (intOf v).toNat)
      case atStart => exact ⟨0, Nat.zero_le _, rfl, SW5.out, .refl _ _⟩
      case round =>
        obtain ⟨i, hi, rfl, hsw6, hk6⟩ := hrel
        obtain ⟨w6, rfl⟩ : ∃ v : World, v = wr := ⟨_, rfl⟩
        have SW6 := Lib.hid hsw6
        have K6 := Lib.hid hk6
        clear hsw6 hk6
        by_cases hli : i < l5
        · have hil : i < lits.length := by rw [← HLN.out]; exact hli
          obtain ⟨ad, rfl, hcx⟩ := (hrow.out.kept0 SW6.out.kept) i hil
          have hX : lits[i]? = some lits[i] := List.getElem?_eq_getElem hil
          have HLS := Lib.hid (litsTo_succ HF.out HBO.out hX)
          have hxl : lits[i] < 4294967296 := by
            have h1 := (HF.out.ok.il _ (List.mem_of_getElem? HBO.out)).2.2.2 lits[i] (List.getElem_mem hil)
            have h2 := HF.out.ok.len
            unfold Gr.ok at h1
            omega
          have HXL := Lib.hid hxl
          have ho6 : Own w6 61 a5 l5 c5 (nats .u32 (rowFrom (1 + inMany (N.inb.take m)) l5)) := HO5.out.kept K6.out (fun b hb hx => by
            simp at hx
            subst hx
            obtain ⟨cur, hc⟩ := HO5.out.apart hb
            exact SW5.out.pm.nocell hc rfl)
          obtain ⟨ad5, rfl, hc5⟩ := ho6.sln i (by rw [rowFrom_length]; exact hli)
          have hval : (rowFrom (1 + inMany (N.inb.take m)) l5)[i]'(by rw [rowFrom_length]; exact hli) = 2 * (1 + inMany (N.inb.take m) + i) := by simp [rowFrom]
          rw [hval] at hc5
          generalize lits[i] = x at *
          obtain ⟨z, hz⟩ : ∃ z, z = 2 * (1 + inMany (N.inb.take m) + i) := ⟨_, rfl⟩
          rw [← hz] at hc5
          have HZ := Lib.hid hz
          obtain ⟨a6, c6, hs6, _, _⟩ := SW6.out.cs
          have d3 : w6.cell? ⟨s, 3, none⟩ = some (.map (some mp)) := blk_cell hs6 3
          have HND := Lib.hid (fun V => lit_node x V HXL.out)
          obtain ⟨q2, hq2⟩ : ∃ v, v = x / 2 := ⟨_, rfl⟩
          have HQ := Lib.hid hq2
          rw [← hq2] at HND
          have i0 : (0 : Int) ≤ (i : Int) := by omega
          have i1 : (i : Int) < (l5 : Int) := by omega
          clear hil hX hxl ho6 hval hz hs6 hq2
          go_upto_region 10 with (fail)
          refine wp_region_still_tail 10 (by kernel_rfl) (by kernel_rfl) ?_
          simp only [List.take_succ_cons, List.take_zero, List.drop_succ_cons, List.drop_zero]
          repeat still_step
          still_call ((HND.out _).mono fun _ _ ⟨h1, h2⟩ => ⟨h1, h2.symm⟩)
          repeat still_step
          refine wpStill_nil ?_
          change wpList _ _ _ _ _ w6.drew
          have SW7 := Lib.hid (SW6.out.kept0 (show Kept [] w6 w6.drew from (Kept.refl [] w6).drew))
          refine wpList_upd (key := .int .i64 (q2 : Nat)) (val := .int .u32 (z : Nat)) rfl rfl i64_law Tryz.underlying97 rfl rfl rfl SW7.out.pm (i64_key _ (by have := HXL.out; have := HQ.out; omega)) ?_
          intro w7 hm7 hk7
          rw [sdF_upd] at hm7
          have SW8 := Lib.hid (SW7.out.setMap (ψ := posM (litsTo N m (i + 1))) hk7 (by rw [← HLS.out, ← HQ.out, ← HZ.out]; exact hm7))
          have K8 := Lib.hid (((K6.out.trans ((show Kept [mp] w6 w6.drew from (Kept.refl [mp] w6).drew))).trans hk7))
          clear hm7 hk7 d3 hc5 hcx
          go_wp2_with fail
          go_roundw
          case rel => exact ⟨i + 1, by omega, by go_num, SW8.out, K8.out⟩
          case measure => simp [intOf]; omega
        · obtain rfl : i = l5 := by omega
          have HE := Lib.hid (show litsTo N m i = litsTo N (m + 1) 0 from by rw [HLN.out]; exact litsTo_next HBO.out)
          go_wp2_with fail
          go_roundw
          case rel => exact ⟨m + 1, F2, R2, by omega, by go_num, by rw [← HE.out]; exact SW6.out⟩
          case measure => simp [intOf]; omega
    · obtain rfl : m = nI := by omega
      have HOU := Lib.hid (outs_c (HN.out.kept0 SW.out.kept) HF.out hk)
      obtain ⟨a4, c4, hs4, _, _⟩ := SW.out.cs
      have d0 : wr.cell? ⟨s, 0, none⟩ = some (.pointer (some ⟨n, 0, none⟩)) := blk_cell hs4 0
      clear hs4
      have HSR := Lib.hid (show SwpAt w0 wr s n n' mp gd fb fcs F1 R1 N (regTo N 0) (regM N 0) [] from by
        have h := SW.out
        rw [HNI.out, litsTo_all] at h
        rw [regTo_zero, regM_zero]
        exact h)
      clear SW
      go_wp2_with fail
      refine HOU.out.mono ?_
      rintro e w5 ⟨a5, c5, rfl, ho5, k5, hf5⟩
      have SW5 := Lib.hid (HSR.out.kept0 k5)
      have WN := Lib.hid (SW5.out.setWant (l := outsN N) ho5 (fun b hb => ⟨Nat.le_trans HSR.out.kept.size (hf5 b hb), fun hx => by have := HSR.out.net.lt.1 b hx; have := hf5 b hb; omega, fun hx => by have := HSR.out.net.lt.2 b hx; have := hf5 b hb; omega⟩))
      obtain ⟨a6, c6, hs6, _, _⟩ := SW5.out.cs
      have fz : w5.frozen? ⟨s, 4, none⟩ = false := blk_free hs6 4
      have d0 : w5.cell? ⟨s, 0, none⟩ = some (.pointer (some ⟨n, 0, none⟩)) := blk_cell hs6 0
      have d4 : w5.cell? ⟨s, 4, none⟩ = some (.slice a6 0 c6) := blk_cell hs6 4
      have c3 := SW5.out.kept.cell HC.out.c3 (by simp)
      rw [← HNR.out] at c3
      have HNS := Lib.hid (show n ≠ s from fun e => by
        have h1 := (SW5.out.new s (by simp)).1
        have h2 := blk_lt HC.out.blk
        omega)
      have c3' : (w5.setCell ⟨s, 4, none⟩ (.slice a5 (outsN N).length c5)).cell? ⟨n, 3, none⟩ = some (.slice ra nR rc) := cell_far HNS.out c3
      obtain ⟨w6, hw6⟩ : ∃ v, v = w5.setCell ⟨s, 4, none⟩ (.slice a5 (outsN N).length c5) := ⟨_, rfl⟩
      have d0' : w6.cell? ⟨s, 0, none⟩ = some (.pointer (some ⟨n, 0, none⟩)) := by
        obtain ⟨a7, c7, hs7, _, _⟩ := WN.out.1.cs
        rw [hw6]
        exact blk_cell hs7 0
      rw [← hw6] at c3' WN
      have HSW := Lib.hid WN.out.1
      clear hs6 ho5 k5 hf5 HOU c3
      clear hm hlt
      go_upto_region 14 with (fail)
      rw [← hw6]
      clear hw6 fz d4 d0
      go_wp2_with fail
      clear c3' d0'
      go_loopw [77] (fun v wr => ∃ j F' R', j ≤ nR ∧ v = .int .i64 j ∧ SwpAt w0 wr s n n' mp gd fb fcs F' R' N (regTo N j) (regM N j) (wantTo N j)) (fun v _ => nR - (intOf v).toNat)
      case atStart => exact ⟨0, F1, R1, Nat.zero_le _, rfl, by have h := HSW.out; rw [show wantTo N 0 = outsN N from by simp [wantTo, goingTo]]; exact h⟩
      case round =>
        obtain ⟨j, F2, R2, hj, rfl, hsw⟩ := hrel
        have SW := Lib.hid hsw
        clear hsw
        by_cases hlt : j < nR
        · have hjl : j < N.regs.length := by rw [← HNR.out]; exact hlt
          obtain ⟨gr, rfl, e0, e1, e2, e3⟩ := ((regs_sl (l := N.regs) rfl HC.out.rb).kept0 SW.out.kept) j hjl
          have hgd : N.regs.getD j ⟨0, 0, 0, false⟩ = N.regs[j]'hjl := by rw [List.getD_eq_getElem?_getD, List.getElem?_eq_getElem hjl]; rfl
          have HMS := Lib.hid (regM_succ HF.out hjl)
          have HJL := Lib.hid hjl
          have HRS := Lib.hid (fun hg => regTo_succ (N := N) (j := j) hg)
          have HWS := Lib.hid (fun hg => wantTo_succ (N := N) (j := j) hg)
          have HST := Lib.hid (show standR N j = if goesB N j then 2 * (1 + inMany N.inb + (goingTo N j).length) else firstR (N.regs.getD j ⟨0, 0, 0, false⟩) from rfl)
          rw [hgd] at HMS HRS HWS HST
          have hq : N.regs[j].q < 4294967296 := by
            have := HF.out.ok.rl _ (List.getElem_mem hjl)
            have h1 := this.1
            have h2 := HF.out.ok.len
            unfold Gr.ok at h1
            omega
          generalize N.regs[j] = r at *
          obtain ⟨q, d, en, init⟩ := r
          simp only at e0 e1 e2 e3 HMS HRS HWS HST hq
          have j0 : (0 : Int) ≤ (j : Int) := by omega
          have j1 : (j : Int) < (nR : Int) := by omega
          clear hjl hgd
          go_upto_region 17 with (fail)
          obtain ⟨w5, hw5⟩ : ∃ v, v = wr.alloc (.cells #[.int .u32 (q : Int), .int .u32 (d : Int), .int .u32 (en : Int), .bool init] 63) := ⟨_, rfl⟩
          obtain ⟨b5, hb5⟩ : ∃ v, v = wr.heap.size := ⟨_, rfl⟩
          have K5 := Lib.hid (show Kept [] wr w5 from by rw [hw5]; exact (Kept.refl [] wr).alloc _)
          have hbl : w5.heap[b5]? = some (.cells #[.int .u32 (q : Int), .int .u32 (d : Int), .int .u32 (en : Int), .bool init] 63 (0, 0)) := by rw [hw5, hb5]; exact heap_alloc_new wr _
          have hge5 : wr.heap.size ≤ b5 := by rw [hb5]; exact Nat.le_refl _
          rw [← hw5, ← hb5]
          have SW5 := Lib.hid (SW.out.kept0 K5.out)
          obtain ⟨a5, c5, hs5, _, _⟩ := SW5.out.cs
          have d3 : w5.cell? ⟨s, 3, none⟩ = some (.map (some mp)) := blk_cell hs5 3
          have d0 : w5.cell? ⟨b5, 0, none⟩ = some (.int .u32 (q : Int)) := blk_cell hbl 0
          have d1 : w5.cell? ⟨b5, 1, none⟩ = some (.int .u32 (d : Int)) := blk_cell hbl 1
          have d2 : w5.cell? ⟨b5, 2, none⟩ = some (.int .u32 (en : Int)) := blk_cell hbl 2
          have d4 : w5.cell? ⟨b5, 3, none⟩ = some (.bool init) := blk_cell hbl 3
          have HSM := Lib.hid (show s ≠ mp from SW5.out.pm.nocell hs5)
          have HBM := Lib.hid (show b5 ≠ mp from SW5.out.pm.nocell hbl)
          have HQ := Lib.hid hq
          have HND := Lib.hid (fun V => lit_node q V hq)
          have HFI := Lib.hid (fun V => first_c ⟨q, d, en, init⟩ V)
          unfold rgV at HFI
          simp only at HFI
          obtain ⟨q2, hq2⟩ : ∃ v, v = q / 2 := ⟨_, rfl⟩
          obtain ⟨fr, hfr⟩ : ∃ v, v = firstR ⟨q, d, en, init⟩ := ⟨_, rfl⟩
          rw [← hq2] at HND HMS
          rw [← hfr] at HFI HST
          have HQ2 := Lib.hid (show q2 < 4294967296 from by omega)
          have HBL := Lib.hid hbl
          have HBF := Lib.hid (show b5 ∉ F2 from fun hx => by have := SW.out.net.lt.1 b5 hx; omega)
          have HSF := Lib.hid (show s ∉ F2 from (SW.out.new s (by simp)).2.1)
          clear hw5 hb5 hbl hge5 hs5 e0 e1 e2 e3 hq2 hfr hq SW
          go_region_held3 (fun w' => w'.cell? ⟨s, 3, none⟩ = some (.map (some mp)) ∧ w'.cell? ⟨b5, 0, none⟩ = some (.int .u32 (q : Int)) ∧ w'.cell? ⟨b5, 1, none⟩ = some (.int .u32 (d : Int)) ∧ w'.cell? ⟨b5, 2, none⟩ = some (.int .u32 (en : Int)) ∧ w'.cell? ⟨b5, 3, none⟩ = some (.bool init))
            (first | exact keep_5f (w := w5) (F := [mp]) (by (repeat (first | with_reducible exact Kept.refl _ _ | with_reducible apply Kept.drew | with_reducible apply Kept.drewN | with_reducible apply Kept.alloc | refine Kept.trans ?_ hk6 | refine Kept.trans ?_ (Kept.more k2 (by simp))))) d3 d0 d1 d2 d4 (by simpa using HSM.out) (by simpa using HBM.out) | go_keep)
            (first
              | (go_at_call 27; (with_reducible refine (HND.out _).mono ?_); rintro e u1 ⟨rfl, rfl⟩)
              | (go_at_call 102; (with_reducible refine (HFI.out _).mono ?_); rintro e u2 ⟨rfl, k2⟩; obtain ⟨w6, hrun6, hm6, hk6⟩ := ((SW5.out.kept0 (show Kept [] w5 u2 from by (repeat (first | with_reducible exact Kept.refl _ _ | with_reducible apply Kept.drew | with_reducible apply Kept.drewN | with_reducible apply Kept.alloc | refine Kept.trans ?_ k2)))).pm).put q2 fr HQ2.out))
          all_goals
            have SW6 := Lib.hid ((SW5.out.kept0 (show Kept [] w5 u2 from by (repeat (first | with_reducible exact Kept.refl _ _ | with_reducible apply Kept.drew | with_reducible apply Kept.drewN | with_reducible apply Kept.alloc | refine Kept.trans ?_ k2)))).setMap hk6 hm6)
            have HBL6 := Lib.hid (hk6.heap ((show Kept [] w5 u2 from by (repeat (first | with_reducible exact Kept.refl _ _ | with_reducible apply Kept.drew | with_reducible apply Kept.drewN | with_reducible apply Kept.alloc | refine Kept.trans ?_ k2))).heap HBL.out (by simp)) (by simpa using HBM.out))
            clear hrun6 hm6 hk6 k2 d0 d1 d2 d3 d4
            obtain ⟨a6, c6, hs6, ho6, hf6⟩ := SW6.out.cs
            have d2' : w6.cell? ⟨s, 2, none⟩ = some (.slice (some ⟨gd, 0, none⟩) nR nR) := by have h := blk_cell hs6 2; rw [HNR.out]; exact h
            have cgd := own_cell_b SW6.out.own j (by rw [goesL_length]; exact HJL.out)
            have HGG := Lib.hid (show (goesL N).getD j false = goesB N j from by rw [List.getD_eq_getElem?_getD, goesL_get N HJL.out]; rfl)
            rw [HGG.out] at cgd
            cases hg : goesB N j with
            | false =>
              rw [hg] at cgd
              have HG := Lib.hid hg
              clear hg hs6 ho6 hf6
              go_wp2_with fail
              go_roundw
              case rel =>
                refine ⟨j + 1, F2, R2, by omega, by go_num, ?_⟩
                rw [regTo_stay HG.out, wantTo_stay HG.out, ← HMS.out, HST.out, if_neg (by rw [HG.out]; simp)]
                exact SW6.out
              case measure => simp [intOf]; omega
            | true =>
              rw [hg] at cgd
              have HG := Lib.hid hg
              have HAR := Lib.hid (fun (V : World) (hV : Kept [] w6 V) => addreg_c (SW6.out.net.kept0 hV) (by have := regTo_ok HF.out j (Nat.le_of_lt HJL.out); omega) init)
              obtain ⟨z, hz⟩ : ∃ z, z = 2 * (1 + inMany N.inb + (goingTo N j).length) := ⟨_, rfl⟩
              rw [← hz] at HST HRS
              clear hz
              rw [HRS.out hg] at HAR
              have hWS := HWS.out hg
              have HW := Lib.hid hWS
              have d1 : w6.cell? ⟨s, 1, none⟩ = some (.pointer (some ⟨n', 0, none⟩)) := blk_cell hs6 1
              have d4 : w6.cell? ⟨b5, 3, none⟩ = some (.bool init) := blk_cell HBL6.out 3
              clear hg hs6 ho6 hf6 hWS
              go_upto_region 19 with (fail)
              go_region_held3 (fun w' => w'.cell? ⟨s, 1, none⟩ = some (.pointer (some ⟨n', 0, none⟩)) ∧ w'.cell? ⟨b5, 3, none⟩ = some (.bool init))
                (first | exact keep_2f (w := w6) (F := F2) (by (repeat (first | with_reducible exact Kept.refl _ _ | with_reducible apply Kept.drew | with_reducible apply Kept.drewN | with_reducible apply Kept.alloc | refine Kept.trans ?_ k5))) d1 d4 HSF.out HBF.out | go_keep)
                (first | (go_at_call 92; (with_reducible refine (HAR.out _ ?kk).mono ?_); (case kk => ((repeat (first | with_reducible exact Kept.refl _ _ | with_reducible apply Kept.drew | with_reducible apply Kept.drewN | with_reducible apply Kept.alloc | refine Kept.trans ?_ k2)))); rintro e w7 ⟨F3, rfl, hn7, hs7⟩; have k5 := hs7.st.kept))
              have SW7 := Lib.hid ((SW6.out.kept0 (show Kept [] w6 w6.drew from (Kept.refl [] w6).drew)).step hn7 hs7)
              have HBL7 := Lib.hid (k5.heap HBL6.out HBF.out)
              clear hn7 hs7 k5 d1 d4 d2' cgd HAR
              obtain ⟨a7, c7, hs7, _, _⟩ := SW7.out.cs
              have d3 : w7.cell? ⟨s, 3, none⟩ = some (.map (some mp)) := blk_cell hs7 3
              have d0 : w7.cell? ⟨b5, 0, none⟩ = some (.int .u32 (q : Int)) := blk_cell HBL7.out 0
              clear hs7
              go_upto_region 22 with (fail)
              refine wp_region_still_tail 8 (by kernel_rfl) (by kernel_rfl) ?_
              simp only [List.take_succ_cons, List.take_zero, List.drop_succ_cons, List.drop_zero]
              repeat still_step
              still_call ((HND.out _).mono fun _ _ ⟨h1, h2⟩ => ⟨h1, h2.symm⟩)
              repeat still_step
              refine wpStill_nil ?_
              change wpList _ _ _ _ _ w7.drew
              have SW7' := Lib.hid (SW7.out.kept0 (show Kept [] w7 w7.drew from (Kept.refl [] w7).drew))
              refine wpList_upd (key := .int .i64 (q2 : Nat)) (val := .int .u32 (z : Nat)) rfl rfl i64_law Tryz.underlying97 rfl rfl rfl SW7'.out.pm (i64_key _ HQ2.out) ?_
              intro w8 hm8 hk8
              rw [sdF_upd] at hm8
              have SW8 := Lib.hid (SW7'.out.setMap (ψ := regM N (j + 1)) hk8 (by
                rw [← HMS.out, HST.out, if_pos HG.out]
                have e : (fun y => if y = q2 then some z else (fun y => if y = q2 then some fr else regM N j y) y) = (fun y => if y = q2 then some z else regM N j y) := by
                  funext y
                  by_cases h : y = q2 <;> simp [h]
                rw [← e]
                exact hm8))
              have HBL8 := Lib.hid (hk8.heap ((show Kept [] w7 w7.drew from (Kept.refl [] w7).drew).heap HBL7.out (by simp)) (by simpa using HBM.out))
              clear hm8 hk8 d3 d0
              obtain ⟨a8, c8, hs8, ho8, hf8⟩ := SW8.out.cs
              obtain ⟨sl, hsl⟩ : ∃ x, x = (wantTo N j).length := ⟨_, rfl⟩
              have HSL := Lib.hid hsl
              have hsl7 : sl ≤ 47000 := by
                have h1 := wantTo_len N j
                have h2 := goingTo_length N j
                have h3 := outsTo_len HF.out N.outb.length
                rw [outsTo_all] at h3
                have h4 := HF.out.ok.ok
                omega
              have d4 := blk_cell hs8 4
              have cbt : w8.cell? ⟨s, 4, none⟩ = some (.slice a8 sl c8) := by rw [hsl]; exact d4
              rw [← hsl] at ho8
              have HO8 := Lib.hid ho8
              have HF8 := Lib.hid hf8
              have d1 : w8.cell? ⟨b5, 1, none⟩ = some (.int .u32 (d : Int)) := blk_cell HBL8.out 1
              have d2 : w8.cell? ⟨b5, 2, none⟩ = some (.int .u32 (en : Int)) := blk_cell HBL8.out 2
              have HBA := Lib.hid (show s ∉ ft a8 from blk_apart hs8 ho8 (by decide))
              have KEEP := Lib.hid (fun (W : World) (hW : Kept (s :: ft a8) w8 W) => show W.cell? ⟨b5, 1, none⟩ = some (.int .u32 (d : Int)) ∧ W.cell? ⟨b5, 2, none⟩ = some (.int .u32 (en : Int)) from by
                have fb : b5 ∉ s :: ft a8 := fun hx => by
                  rcases List.mem_cons.1 hx with h | hx
                  · exact blk_ne HBL8.out hs8 (by decide) h
                  · exact blk_apart HBL8.out ho8 (by decide) hx
                exact ⟨hW.cell d1 fb, hW.cell d2 fb⟩)
              have HBT := Lib.hid (show (⟨s, 4, none⟩ : Addr).block ∈ s :: ft a8 ∨ w8.heap.size ≤ (⟨s, 4, none⟩ : Addr).block from .inl (by simp))
              have hltb : s < w8.heap.size := (Array.getElem?_eq_some_iff.1 hs8).1
              have cbtA : ∀ o, (w8.alloc o).cell? ⟨s, 4, none⟩ = some (.slice a8 sl c8) := fun o => cell_alloc cbt o
              have fbt : w8.frozen? ⟨s, 4, none⟩ = false := blk_free hs8 4
              have fbtA : ∀ o, (w8.alloc o).frozen? ⟨s, 4, none⟩ = false := fun o => (((Kept.refl [] w8).alloc o).frozen hltb (by simp)).trans fbt
              clear hs8 ho8 hf8 hsl d4
              go_upto_region 23 with (fail)
              refine wp_region_held_drew (S := fun W => W.cell? ⟨b5, 1, none⟩ = some (.int .u32 (d : Int)) ∧ W.cell? ⟨b5, 2, none⟩ = some (.int .u32 (en : Int))) (by kernel_rfl) ?_ (fun hHeld => ?_)
              · try dsimp only
                (with_reducible refine KEEP.out _ ?_; (repeat (first | with_reducible exact k9 | with_reducible refine Kept.setCell ?_ HBT.out _ | with_reducible exact Kept.refl _ _ | with_reducible apply Kept.drew | with_reducible apply Kept.drewN | with_reducible apply Kept.alloc)))
              refine wpAnyH_take (i := 0) (v := ?_) rfl (by kernel_rfl) (by kernel_rfl) (by kernel_rfl) (fun _ _ _ h => h) (Or.inl ⟨by rfl, ?_⟩) (by assumption) ?_
              rotate_left
              · intro w hSw; (try dsimp only at hSw); go_simp
                all_goals with_reducible rfl
              try simp only [Act.put, List.setIfInBounds_toArray, List.set_cons_zero, List.set_cons_succ]
              refine wpAnyH_take (i := 1) (v := ?_) rfl (by kernel_rfl) (by kernel_rfl) (by kernel_rfl) (fun _ _ _ h => h) (Or.inl ⟨by rfl, ?_⟩) (by assumption) ?_
              rotate_left
              · intro w hSw; (try dsimp only at hSw); go_simp
                all_goals with_reducible rfl
              try simp only [Act.put, List.setIfInBounds_toArray, List.set_cons_zero, List.set_cons_succ]
              refine wpAnyH_take (i := 2) (v := ?_) rfl (by kernel_rfl) (by kernel_rfl) (by kernel_rfl) (fun _ _ _ h => h) (Or.inl ⟨by rfl, ?_⟩) (by assumption) ?_
              rotate_left
              · intro w hSw; (try dsimp only at hSw); go_simp
                all_goals with_reducible rfl
              try simp only [Act.put, List.setIfInBounds_toArray, List.set_cons_zero, List.set_cons_succ]
              refine wpAnyH_take (i := 3) (v := ?_) rfl (by kernel_rfl) (by kernel_rfl) (by kernel_rfl) (fun _ _ _ h => h) (Or.inl ⟨by rfl, ?_⟩) (by assumption) ?_
              rotate_left
              · intro w hSw; (try dsimp only at hSw); go_simp
                all_goals with_reducible rfl
              try simp only [Act.put, List.setIfInBounds_toArray, List.set_cons_zero, List.set_cons_succ]
              refine wpAnyH_take (i := 5) (v := ?_) rfl (by kernel_rfl) (by kernel_rfl) (by kernel_rfl) (fun _ _ _ h => h) (Or.inl ⟨by rfl, ?_⟩) (by assumption) ?_
              rotate_left
              · intro w hSw; (try dsimp only at hSw); go_simp
                all_goals with_reducible rfl
              try simp only [Act.put, List.setIfInBounds_toArray, List.set_cons_zero, List.set_cons_succ]
              refine wpAnyH_take (i := 6) (v := ?_) rfl (by kernel_rfl) (by kernel_rfl) (by kernel_rfl) (fun _ _ _ h => h) (Or.inl ⟨by rfl, ?_⟩) (by assumption) ?_
              rotate_left
              · intro w hSw; (try dsimp only at hSw); go_simp
                all_goals with_reducible rfl
              try simp only [Act.put, List.setIfInBounds_toArray, List.set_cons_zero, List.set_cons_succ]
              refine wpAnyH_take (i := 7) (v := ?_) rfl (by kernel_rfl) (by kernel_rfl) (by kernel_rfl) (fun _ _ _ h => h) (Or.inl ⟨by rfl, ?_⟩) (by assumption) ?_
              rotate_left
              · intro w hSw; (try dsimp only at hSw); go_simp
                all_goals with_reducible rfl
              try simp only [Act.put, List.setIfInBounds_toArray, List.set_cons_zero, List.set_cons_succ]
              refine wpAnyH_take (i := 8) (v := ?_) rfl (by kernel_rfl) (by kernel_rfl) (by kernel_rfl) (fun _ _ _ h => h) (Or.inl ⟨by rfl, ?_⟩) (by assumption) ?_
              rotate_left
              · intro w hSw; (try dsimp only at hSw); go_simp
                all_goals with_reducible rfl
              try simp only [Act.put, List.setIfInBounds_toArray, List.set_cons_zero, List.set_cons_succ]
              refine wpAnyH_ready (rs := [4, 9]) (by kernel_rfl) (by simp) ?_
              refine AllReadyH.cons rfl (fun K hK => ?_) ?_
              · go_simp
                refine hK.out _ _ ?_ (fun hHeld => ?_)
                · (with_reducible refine KEEP.out _ ?_; (repeat (first | with_reducible exact k9 | with_reducible refine Kept.setCell ?_ HBT.out _ | with_reducible exact Kept.refl _ _ | with_reducible apply Kept.drew | with_reducible apply Kept.drewN | with_reducible apply Kept.alloc)))
                clear hK K
                try simp only [Act.put, List.setIfInBounds_toArray, List.set_cons_zero, List.set_cons_succ]
                refine wpAnyH_ready (rs := [9]) (by kernel_rfl) (by simp) ?_
                refine AllReadyH.cons rfl (fun K hK => ?_) ?_
                · go_simp
                  refine hK.out _ _ ?_ (fun hHeld => ?_)
                  · (with_reducible refine KEEP.out _ ?_; (repeat (first | with_reducible exact k9 | with_reducible refine Kept.setCell ?_ HBT.out _ | with_reducible exact Kept.refl _ _ | with_reducible apply Kept.drew | with_reducible apply Kept.drewN | with_reducible apply Kept.alloc)))
                  clear hK K
                  try simp only [Act.put, List.setIfInBounds_toArray, List.set_cons_zero, List.set_cons_succ]
                  refine wpAnyH_ready (rs := [10]) (by kernel_rfl) (by simp) ?_
                  refine AllReadyH.cons rfl (fun K hK => ?_) ?_
                  · refine step_cat (a := a8) (n := sl) (cap := c8) (by rfl) (by rfl) Tryz.underlying58 lit_info rfl (by omega) (by rfl) (by rfl) (news := [.int .u32 (d : Int), .int .u32 (en : Int)]) (own_kept (w := w8) (F := []) HO8.out (by (repeat (first | with_reducible exact Kept.refl _ _ | with_reducible apply Kept.drew | with_reducible apply Kept.drewN | with_reducible apply Kept.alloc))) (by simp)) rfl (news_blk (t := 61) (by exact heap_alloc_new _ _)) (by simp [Value.oneCell']) (by unfold maxLen; omega) (by omega) ?_
                    intro a9 c9 w9 hown9 hst9
                    have cw : w9.cell? ⟨s, 4, none⟩ = some (.slice a8 sl c8) := hst9.kept.cell (cbtA _) HBA.out
                    have fw : w9.frozen? ⟨s, 4, none⟩ = false := (hst9.kept.frozen (Nat.lt_of_lt_of_le hltb (Kept.size (F := []) (by (repeat (first | with_reducible exact Kept.refl _ _ | with_reducible apply Kept.drew | with_reducible apply Kept.drewN | with_reducible apply Kept.alloc))))) HBA.out).trans (fbtA _)
                    have k9 := ((show Kept (s :: ft a8) w8 _ from (by (repeat (first | with_reducible exact Kept.refl _ _ | with_reducible apply Kept.drew | with_reducible apply Kept.drewN | with_reducible apply Kept.alloc)))).trans (hst9.kept.more (fun b hb => by simp [hb])))
                    refine hK.out _ _ ?_ (fun hHeld => ?_)
                    · (with_reducible refine KEEP.out _ ?_; (repeat (first | with_reducible exact k9 | with_reducible refine Kept.setCell ?_ HBT.out _ | with_reducible exact Kept.refl _ _ | with_reducible apply Kept.drew | with_reducible apply Kept.drewN | with_reducible apply Kept.alloc)))
                    clear hK K
                    try simp only [Act.put, List.setIfInBounds_toArray, List.set_cons_zero, List.set_cons_succ]
                    refine wpAnyH_ready (rs := [11]) (by kernel_rfl) (by simp) ?_
                    refine AllReadyH.cons rfl (fun K hK => ?_) ?_
                    · go_simp
                      refine hK.out _ _ ?_ (fun hHeld => ?_)
                      · (with_reducible refine KEEP.out _ ?_; (repeat (first | with_reducible exact k9 | with_reducible refine Kept.setCell ?_ HBT.out _ | with_reducible exact Kept.refl _ _ | with_reducible apply Kept.drew | with_reducible apply Kept.drewN | with_reducible apply Kept.alloc)))
                      clear hK K
                      try simp only [Act.put, List.setIfInBounds_toArray, List.set_cons_zero, List.set_cons_succ]
                      refine wpAnyH_ready (rs := [12]) (by kernel_rfl) (by simp) ?_
                      refine AllReadyH.cons rfl (fun K hK => ?_) ?_
                      · go_simp
                        refine hK.out _ _ ?_ (fun hHeld => ?_)
                        · (with_reducible refine KEEP.out _ ?_; (repeat (first | with_reducible exact k9 | with_reducible refine Kept.setCell ?_ HBT.out _ | with_reducible exact Kept.refl _ _ | with_reducible apply Kept.drew | with_reducible apply Kept.drewN | with_reducible apply Kept.alloc)))
                        clear hK K
                        try simp only [Act.put, List.setIfInBounds_toArray, List.set_cons_zero, List.set_cons_succ]
                        refine wpAnyH_ready (rs := [13]) (by kernel_rfl) (by simp) ?_
                        refine AllReadyH.cons rfl (fun K hK => ?_) ?_
                        · go_simp
                          refine hK.out _ _ ?_ (fun hHeld => ?_)
                          · (with_reducible refine KEEP.out _ ?_; (repeat (first | with_reducible exact k9 | with_reducible refine Kept.setCell ?_ HBT.out _ | with_reducible exact Kept.refl _ _ | with_reducible apply Kept.drew | with_reducible apply Kept.drewN | with_reducible apply Kept.alloc)))
                          clear hK K
                          try simp only [Act.put, List.setIfInBounds_toArray, List.set_cons_zero, List.set_cons_succ]
                          refine wpAnyH_done (by kernel_rfl) ?_ _
                          have kx : Kept [] w8 (w8.alloc (.cells #[.int .u32 (d : Int), .int .u32 (en : Int)] 61)).drew := ((Kept.refl [] w8).alloc _).drew
                          have hl9 : (wantTo N j ++ [d, en]).length = sl + 2 := by rw [List.length_append, ← HSL.out]; rfl
                          have ho9 : Own w9 61 a9 (wantTo N j ++ [d, en]).length c9 (nats .u32 (wantTo N j ++ [d, en])) := by
                            rw [hl9, show nats .u32 (wantTo N j ++ [d, en]) = nats .u32 (wantTo N j) ++ [.int .u32 (d : Int), .int .u32 (en : Int)] from by simp [nats]]
                            exact hown9
                          have PU := (SW8.out.kept0 kx).push (a := a8) (c := c8) (by rw [← HSL.out]; exact HO8.out.kept0 kx) HF8.out hst9 ho9
                          rw [hl9] at PU
                          have SW9 := Lib.hid PU.1
                          clear PU kx hl9 ho9 hown9 hst9 cw fw k9
                          go_wp2_with fail
                          go_roundw
                          case rel => exact ⟨j + 1, F3, R2, by omega, by go_num, by rw [HW.out]; exact SW9.out⟩
                          case measure => simp [intOf]; omega
                        exact AllReadyH.nil
                      exact AllReadyH.nil
                    exact AllReadyH.nil
                  exact AllReadyH.nil
                exact AllReadyH.nil
              refine AllReadyH.cons rfl (fun K hK => ?_) ?_
              · go_simp
                refine hK.out _ _ ?_ (fun hHeld => ?_)
                · (with_reducible refine KEEP.out _ ?_; (repeat (first | with_reducible exact k9 | with_reducible refine Kept.setCell ?_ HBT.out _ | with_reducible exact Kept.refl _ _ | with_reducible apply Kept.drew | with_reducible apply Kept.drewN | with_reducible apply Kept.alloc)))
                clear hK K
                try simp only [Act.put, List.setIfInBounds_toArray, List.set_cons_zero, List.set_cons_succ]
                refine wpAnyH_ready (rs := [4]) (by kernel_rfl) (by simp) ?_
                refine AllReadyH.cons rfl (fun K hK => ?_) ?_
                · go_simp
                  refine hK.out _ _ ?_ (fun hHeld => ?_)
                  · (with_reducible refine KEEP.out _ ?_; (repeat (first | with_reducible exact k9 | with_reducible refine Kept.setCell ?_ HBT.out _ | with_reducible exact Kept.refl _ _ | with_reducible apply Kept.drew | with_reducible apply Kept.drewN | with_reducible apply Kept.alloc)))
                  clear hK K
                  try simp only [Act.put, List.setIfInBounds_toArray, List.set_cons_zero, List.set_cons_succ]
                  refine wpAnyH_ready (rs := [10]) (by kernel_rfl) (by simp) ?_
                  refine AllReadyH.cons rfl (fun K hK => ?_) ?_
                  · refine step_cat (a := a8) (n := sl) (cap := c8) (by rfl) (by rfl) Tryz.underlying58 lit_info rfl (by omega) (by rfl) (by rfl) (news := [.int .u32 (d : Int), .int .u32 (en : Int)]) (own_kept (w := w8) (F := []) HO8.out (by (repeat (first | with_reducible exact Kept.refl _ _ | with_reducible apply Kept.drew | with_reducible apply Kept.drewN | with_reducible apply Kept.alloc))) (by simp)) rfl (news_blk (t := 61) (by exact heap_alloc_new _ _)) (by simp [Value.oneCell']) (by unfold maxLen; omega) (by omega) ?_
                    intro a9 c9 w9 hown9 hst9
                    have cw : w9.cell? ⟨s, 4, none⟩ = some (.slice a8 sl c8) := hst9.kept.cell (cbtA _) HBA.out
                    have fw : w9.frozen? ⟨s, 4, none⟩ = false := (hst9.kept.frozen (Nat.lt_of_lt_of_le hltb (Kept.size (F := []) (by (repeat (first | with_reducible exact Kept.refl _ _ | with_reducible apply Kept.drew | with_reducible apply Kept.drewN | with_reducible apply Kept.alloc))))) HBA.out).trans (fbtA _)
                    have k9 := ((show Kept (s :: ft a8) w8 _ from (by (repeat (first | with_reducible exact Kept.refl _ _ | with_reducible apply Kept.drew | with_reducible apply Kept.drewN | with_reducible apply Kept.alloc)))).trans (hst9.kept.more (fun b hb => by simp [hb])))
                    refine hK.out _ _ ?_ (fun hHeld => ?_)
                    · (with_reducible refine KEEP.out _ ?_; (repeat (first | with_reducible exact k9 | with_reducible refine Kept.setCell ?_ HBT.out _ | with_reducible exact Kept.refl _ _ | with_reducible apply Kept.drew | with_reducible apply Kept.drewN | with_reducible apply Kept.alloc)))
                    clear hK K
                    try simp only [Act.put, List.setIfInBounds_toArray, List.set_cons_zero, List.set_cons_succ]
                    refine wpAnyH_ready (rs := [11]) (by kernel_rfl) (by simp) ?_
                    refine AllReadyH.cons rfl (fun K hK => ?_) ?_
                    · go_simp
                      refine hK.out _ _ ?_ (fun hHeld => ?_)
                      · (with_reducible refine KEEP.out _ ?_; (repeat (first | with_reducible exact k9 | with_reducible refine Kept.setCell ?_ HBT.out _ | with_reducible exact Kept.refl _ _ | with_reducible apply Kept.drew | with_reducible apply Kept.drewN | with_reducible apply Kept.alloc)))
                      clear hK K
                      try simp only [Act.put, List.setIfInBounds_toArray, List.set_cons_zero, List.set_cons_succ]
                      refine wpAnyH_ready (rs := [12]) (by kernel_rfl) (by simp) ?_
                      refine AllReadyH.cons rfl (fun K hK => ?_) ?_
                      · go_simp
                        refine hK.out _ _ ?_ (fun hHeld => ?_)
                        · (with_reducible refine KEEP.out _ ?_; (repeat (first | with_reducible exact k9 | with_reducible refine Kept.setCell ?_ HBT.out _ | with_reducible exact Kept.refl _ _ | with_reducible apply Kept.drew | with_reducible apply Kept.drewN | with_reducible apply Kept.alloc)))
                        clear hK K
                        try simp only [Act.put, List.setIfInBounds_toArray, List.set_cons_zero, List.set_cons_succ]
                        refine wpAnyH_ready (rs := [13]) (by kernel_rfl) (by simp) ?_
                        refine AllReadyH.cons rfl (fun K hK => ?_) ?_
                        · go_simp
                          refine hK.out _ _ ?_ (fun hHeld => ?_)
                          · (with_reducible refine KEEP.out _ ?_; (repeat (first | with_reducible exact k9 | with_reducible refine Kept.setCell ?_ HBT.out _ | with_reducible exact Kept.refl _ _ | with_reducible apply Kept.drew | with_reducible apply Kept.drewN | with_reducible apply Kept.alloc)))
                          clear hK K
                          try simp only [Act.put, List.setIfInBounds_toArray, List.set_cons_zero, List.set_cons_succ]
                          refine wpAnyH_done (by kernel_rfl) ?_ _
                          have kx : Kept [] w8 (w8.alloc (.cells #[.int .u32 (d : Int), .int .u32 (en : Int)] 61)).drew := ((Kept.refl [] w8).alloc _).drew
                          have hl9 : (wantTo N j ++ [d, en]).length = sl + 2 := by rw [List.length_append, ← HSL.out]; rfl
                          have ho9 : Own w9 61 a9 (wantTo N j ++ [d, en]).length c9 (nats .u32 (wantTo N j ++ [d, en])) := by
                            rw [hl9, show nats .u32 (wantTo N j ++ [d, en]) = nats .u32 (wantTo N j) ++ [.int .u32 (d : Int), .int .u32 (en : Int)] from by simp [nats]]
                            exact hown9
                          have PU := (SW8.out.kept0 kx).push (a := a8) (c := c8) (by rw [← HSL.out]; exact HO8.out.kept0 kx) HF8.out hst9 ho9
                          rw [hl9] at PU
                          have SW9 := Lib.hid PU.1
                          clear PU kx hl9 ho9 hown9 hst9 cw fw k9
                          go_wp2_with fail
                          go_roundw
                          case rel => exact ⟨j + 1, F3, R2, by omega, by go_num, by rw [HW.out]; exact SW9.out⟩
                          case measure => simp [intOf]; omega
                        exact AllReadyH.nil
                      exact AllReadyH.nil
                    exact AllReadyH.nil
                  exact AllReadyH.nil
                exact AllReadyH.nil
              exact AllReadyH.nil
        · obtain rfl : j = nR := by omega
          have HW := Lib.hid (show wantTo N j = wantedN N from by rw [HNR.out]; exact wantTo_all N)
          go_wp2_with fail
          go_ret
          refine ⟨F2, R2, rfl, ?_⟩
          have h := SW.out
          rw [HW.out] at h
          rw [← HNR.out]
          exact h
end Go.Proofs.YtdmcdhkkbkgnbaaGreat
