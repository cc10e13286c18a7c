/-
  NetGives: the walk.
-/
import Derived.Test.YthiccfaldahmhaaGiveF
import Derived.StillTailTactics
namespace Go.Proofs.Ythiccfaldahmhaa
open Go.ChangeShapes Go.WideShapes Go.ChangeAt Go.RowKit
open Go.Maps (Keyed)
open Go.WideMaps
set_option linter.unusedVariables false
set_option linter.unusedSimpArgs false

set_option maxHeartbeats 12800000 in
set_option maxRecDepth 100000 in
theorem netgives_walk (o1 o2 : Bool) (sa : Option Addr) (sl : List NStp) (sc : Nat) (w : World) (hsm : sl.length ≤ 140737488351232) (hss : SlNSteps w sa sl) (hso : ∀ s ∈ sl, s.ok) :
    Calls Try.prog 3 #[.agg #[.bool o1, .bool o2], .slice sa sl.length sc] w fun e w' => e = .returned (.bool true) ∧ Below w.heap.size w w' := by
  obtain ⟨len, hlen⟩ : ∃ k, k = sl.length := ⟨_, rfl⟩
  have HL := Lib.hid hlen
  rw [← hlen] at hsm ⊢
  have HS := Lib.hid hss
  have HO := Lib.hid hso
  clear hlen hss hso
  have FN := Lib.hid (newN_fine ⟨#[116, 111, 112]⟩ o1 o2 t_facts.1)
  have hmm := @run_makeMap Try.prog
  go_enter Try.func3, Try.ntmps3; (try simp only [List.append])
  go_wp2_with fail
  refine (new_net ⟨#[116, 111, 112]⟩ o1 o2 _ (by decide) t_facts.1).mono ?_
  rintro e w1 ⟨n, F, rfl, hn, hk, hf⟩
  have N1 := Lib.hid hn
  have G1 := Lib.hid (Gives.start w1 hn (((Kept.refl [] w).alloc _).trans hk) (fun b hb => Nat.le_trans (by simp) (hf b hb)))
  obtain ⟨p0, G0, hc0, -⟩ := hn.graphAt
  clear hn hk hf
  go_wp2_with fail
  obtain ⟨w2, hw2⟩ : ∃ w2, w2 = ((w1.alloc (.map #[] 0)).alloc (.map #[] 0)).alloc (.map #[] 0) := ⟨_, rfl⟩
  obtain ⟨mt, hmt⟩ : ∃ m, m = w1.heap.size + 1 + 1 := ⟨_, rfl⟩
  obtain ⟨mo, hmo⟩ : ∃ m, m = w1.heap.size + 1 := ⟨_, rfl⟩
  obtain ⟨mi, hmi⟩ : ∃ m, m = w1.heap.size := ⟨_, rfl⟩
  rw [← hw2, ← hmt, ← hmo, ← hmi] at G1
  rw [← hw2, ← hmt, ← hmo, ← hmi]
  clear hw2 hmt hmo hmi N1 hc0
  go_loopw [10] (fun i wr => GiveRel w wr n mi mo mt len i) (fun i _ => 60 - (intOf i).toNat)
  case atStart => exact ⟨0, _, _, _, [], [], by omega, by omega, rfl, G1.out, rfl, rfl, FN.out⟩
  case round =>
    obtain ⟨k, F, R, N, li, lo, h60, hkl, rfl, hG, hei, heo, hfine⟩ := hrel
    have HG := Lib.hid hG
    have HEI := Lib.hid hei
    have HEO := Lib.hid heo
    have HFI := Lib.hid hfine
    clear hG hei heo hfine G1 FN
    by_cases hlt : k < len ∧ k < 60
    · obtain ⟨h1, h2⟩ := hlt
      have hkk : k < sl.length := by rw [← HL.out]; exact h1
      obtain ⟨b, o, rfl, la, lc, ⟨z0, z1, z2, z3, z4, z5, z6⟩, hlw⟩ := HS.out k hkk
      have c0 := HG.out.kept.cell z0 (by simp)
      have c1 := HG.out.kept.cell z1 (by simp)
      have c2 := HG.out.kept.cell z2 (by simp)
      have c3 := HG.out.kept.cell z3 (by simp)
      have c4 := HG.out.kept.cell z4 (by simp)
      have c5 := HG.out.kept.cell z5 (by simp)
      have c6 := HG.out.kept.cell z6 (by simp)
      have hla := hlw.kept0 HG.out.kept
      clear z0 z1 z2 z3 z4 z5 z6
      have hok := HO.out _ (List.getElem_mem hkk)
      have lenN : N.g.nodes.length ≤ 4000 := by have := HFI.out.ok.len; omega
      have HD := Lib.hid (fun (W : World) (hkW : Kept [] wr W) => does_c sl[k] la lc (HG.out.net.kept0 hkW) (by have h := HFI.out.ok; have a1 := h.len; have a2 := h.ik; have a3 := h.rk; have a4 := h.ok; omega) hok (hla.kept0 hkW))
      have HOK := Lib.hid hok
      have HLA := Lib.hid hlw
      generalize sl[k] = s at *
      obtain ⟨p, G, hc0, hgr⟩ := HG.out.net.graphAt
      have HNO := Lib.hid (fun (W : World) (hkW : Kept [] wr W) => aig_nodes (hgr.kept0 hkW) (show N.g.nodes.length ≤ 1000000 by omega))
      have hc0' := fun o => cell_alloc hc0 o
      obtain ⟨what, nm, sn, a, bb, c, lits⟩ := s
      obtain ⟨ln, hln⟩ : ∃ k, k = lits.length := ⟨_, rfl⟩
      obtain ⟨n0, hn0⟩ : ∃ k, k = N.g.nodes.length := ⟨_, rfl⟩
      have HLN := Lib.hid hln
      have HN0 := Lib.hid hn0
      simp only [stepV, stepCells6] at c0 c1 c2 c3 c4 c5 c6 HD
      rw [← hln] at c6 HD
      rw [← hn0] at HNO
      clear hok hla hlw hgr hln hn0
      go_wp2_with fail
      obtain ⟨q, hq⟩ : ∃ q, q = wr.heap.size := ⟨_, rfl⟩
      obtain ⟨w3, hw3⟩ : ∃ w3, w3 = wr.alloc (.cells #[.int .i64 what, .string nm, .int .i64 sn, .int .u32 (a : Int), .int .u32 (bb : Int), .int .u32 (c : Int), .slice la ln lc] 39) := ⟨_, rfl⟩
      have hbl : w3.heap[q]? = some (.cells #[.int .i64 what, .string nm, .int .i64 sn, .int .u32 (a : Int), .int .u32 (bb : Int), .int .u32 (c : Int), .slice la ln lc] 39 (0, 0)) := by rw [hw3, hq]; exact heap_alloc_new wr _
      have K3 := Lib.hid (show Kept [] wr w3 from by rw [hw3]; exact (Kept.refl [] wr).alloc _)
      have HQ := Lib.hid hq
      have HQM := Lib.hid (show q ∉ [mo] from by simp; have := HG.out.go.lt; omega)
      have HGLT := Lib.hid (show w.heap.size ≤ w3.heap.size ∧ mi < w3.heap.size ∧ mo < w3.heap.size ∧ mt < w3.heap.size from by
        have h0 := HG.out.kept.size
        have h1 := HG.out.gi.lt
        have h2 := HG.out.go.lt
        have h3 := HG.out.gt.lt
        have h4 := K3.out.size
        omega)
      have d0 : w3.cell? ⟨q, 0, none⟩ = some (.int .i64 what) := blk_cell hbl 0
      have d1 : w3.cell? ⟨q, 1, none⟩ = some (.string nm) := blk_cell hbl 1
      have d2 : w3.cell? ⟨q, 2, none⟩ = some (.int .i64 sn) := blk_cell hbl 2
      have d3 : w3.cell? ⟨q, 3, none⟩ = some (.int .u32 (a : Int)) := blk_cell hbl 3
      have d4 : w3.cell? ⟨q, 4, none⟩ = some (.int .u32 (bb : Int)) := blk_cell hbl 4
      have d5 : w3.cell? ⟨q, 5, none⟩ = some (.int .u32 (c : Int)) := blk_cell hbl 5
      have d6 : w3.cell? ⟨q, 6, none⟩ = some (.slice la ln lc) := blk_cell hbl 6
      have HBL := Lib.hid hbl
      rw [← hw3, ← hq]
      clear hw3 hq c0 c1 c2 c3 c4 c5 c6 hbl hc0 hc0'
      refine (HNO.out _ K3.out).mono ?_
      rintro e w' ⟨rfl, rfl⟩
      go_wp2_with fail
      refine (HD.out _ K3.out).mono ?_
      intro e w4 hx
      obtain ⟨F4, R4, a4, c4, k4, he, hn4, hs4, ho4, hf4⟩ := hx
      have hqF : q ∉ F := fun h => by have := HG.out.net.lt.1 q h; have := HQ.out; omega
      have hb4 := hs4.st.kept.heap HBL.out hqF
      have HG4 := Lib.hid ((HG.out.keep K3.out).step hn4 hs4)
      have HO4 := Lib.hid ho4
      have HF4 := Lib.hid (fun b (hb : b ∈ ft a4) => And.intro (ho4.lt b hb) (hf4 b hb))
      have e0 : w4.cell? ⟨q, 0, none⟩ = some (.int .i64 what) := blk_cell hb4 0
      have e1 : w4.cell? ⟨q, 1, none⟩ = some (.string nm) := blk_cell hb4 1
      have e2 : w4.cell? ⟨q, 2, none⟩ = some (.int .i64 sn) := blk_cell hb4 2
      have e3 : w4.cell? ⟨q, 3, none⟩ = some (.int .u32 (a : Int)) := blk_cell hb4 3
      have e4 : w4.cell? ⟨q, 4, none⟩ = some (.int .u32 (bb : Int)) := blk_cell hb4 4
      have e5 : w4.cell? ⟨q, 5, none⟩ = some (.int .u32 (c : Int)) := blk_cell hb4 5
      have e6 : w4.cell? ⟨q, 6, none⟩ = some (.slice la ln lc) := blk_cell hb4 6
      clear hn4 hs4 ho4 hf4 hb4 d0 d1 d2 d3 d4 d5 d6 HD HNO HBL HG
      obtain ⟨y, hy⟩ : ∃ y, y = (doesN N ⟨what, nm, sn, a, bb, c, lits⟩).2.2 := ⟨_, rfl⟩
      have HY := Lib.hid hy
      rw [← hy] at he
      clear hy
      by_cases hy0 : y = 0
      · have he' : e = .returned (.tuple #[.slice a4 k4 c4, .int .i64 0]) := by rw [he, hy0]; rfl
        subst he'
        clear he
        by_cases w0 : what = 0
        · subst w0
          obtain ⟨r1, r2, r3, r4⟩ := did_0 (N := N) (s := ⟨0, nm, sn, a, bb, c, lits⟩) rfl (by rw [← HY.out]; exact hy0)
          simp only at r1 r2 r3 r4
          obtain ⟨m, rfl⟩ : ∃ m : Nat, sn = (m : Int) := ⟨sn.toNat, by omega⟩
          simp only [Int.toNat_natCast] at r4
          have HG5 := Lib.hid (show Gives w w4 n mi mo mt F4 R4 { N with g := inputsG N.g m, inb := N.inb ++ [⟨nm, rowFrom N.g.nodes.length m⟩] } li lo N.regs from by have h := HG4.out; rw [r4] at h; exact h)
          have ho5 : Own w4 44 a4 k4 c4 (nats .u32 (rowFrom N.g.nodes.length m)) := by have h := HO4.out; rw [r4] at h; exact h
          have hfi := doesN_fine HFI.out ⟨0, nm, (m : Int), a, bb, c, lits⟩
          rw [r4] at hfi
          have HF5 := Lib.hid hfi
          have hk4 : k4 = m := by have h := ho5.len; rw [nats_length, rowFrom_length] at h; exact h.symm
          subst hk4
          have HO5 := Lib.hid ho5
          have HNE := Lib.hid (show ∀ r ∈ li, r.b.name ≠ nm from fun r hr => r3 r.b (by rw [← HEI.out]; exact List.mem_map_of_mem hr))
          obtain ⟨p5, G5, hc5, hg5⟩ := HG5.out.net.graphAt
          have HNO5 := Lib.hid (fun d => show Calls Try.prog 7 #[.pointer (some ⟨p5, 0, none⟩)] (w4.drewN d) fun e w' => e = .returned (.int .i64 ((n0 : Int) + (k4 : Int))) ∧ w4.drewN d = w' from by
            have h := aig_nodes (hg5.kept0 ((Kept.refl [] w4).drewN d)) (show (inputsG N.g k4).nodes.length ≤ 1000000 by rw [inputsG_length]; omega)
            rw [show (((inputsG N.g k4).nodes.length : Nat) : Int) = (n0 : Int) + (k4 : Int) by rw [inputsG_length, HN0.out]; push_cast; rfl] at h
            exact h)
          have hn0 : n0 ≤ 4000 := by rw [HN0.out]; exact lenN
          have hwr : IntKind.i64.wrap ((n0 : Int) + (k4 : Int)) = (n0 : Int) + (k4 : Int) := IntWalk.i64_in _ (by omega)
          clear r3 r4 ho5 hfi HG4 HO4 hg5 hy0 e3 e4 e5 e6
          go_wp2_with fail
          go_quiet ((go_at_call 7; exact q_same (HNO5.out _)))
          clear hwr
          go_wp2_with fail
          obtain ⟨wo, hwo⟩ : ∃ wo : World, wo = w4 := ⟨_, rfl⟩
          have HWO := Lib.hid hwo
          clear hwo
          go_loopw [103] (fun v wr2 => ∃ j d : Nat, j ≤ k4 ∧ v = .int .i64 j ∧ wr2 = w4.drewN d) (fun v _ => k4 - (intOf v).toNat)
          case atStart => exact ⟨0, _, Nat.zero_le _, rfl, rfl⟩
          case round =>
            obtain ⟨j, d, hj, rfl, rfl⟩ := hrel
            by_cases hlt2 : j < k4
            · obtain ⟨ad, rfl, hcx⟩ := HO5.out.sln j (by rw [rowFrom_length]; exact hlt2)
              have hcx' : w4.cell? (ad.add j) = some (.int .u32 ((2 * (n0 + j) : Nat) : Int)) := by rw [hcx, HN0.out]; simp [rowFrom]
              obtain ⟨x, hx⟩ : ∃ x, x = 2 * (n0 + j) := ⟨_, rfl⟩
              rw [← hx] at hcx'
              have HN := Lib.hid (fun (W : World) => show Calls Try.prog 9 #[.int .u32 x] W fun e w' => e = .returned (.int .i64 ((n0 : Int) + (j : Int))) ∧ W = w' from by
                have h := lit_node x W (by omega)
                rw [show ((x / 2 : Nat) : Int) = (n0 : Int) + (j : Int) by omega] at h
                exact h)
              have HT := Lib.hid (fun (W : World) => show Calls Try.prog 10 #[.int .u32 x] W fun e w' => e = .returned (.bool false) ∧ W = w' from by
                have h := lit_turned x W (by omega)
                rw [show decide (x % 2 = 1) = false by rw [decide_eq_false_iff_not]; omega] at h
                exact h)
              clear hcx hx
              go_wp2_with fail
              refine (HN.out _).mono ?_
              rintro e w' ⟨rfl, rfl⟩
              go_wp2_with fail
              refine (HT.out _).mono ?_
              rintro e w' ⟨rfl, rfl⟩
              go_wp2_with fail
              go_roundw
              case rel => exact ⟨j + 1, d, by omega, by go_num, rfl⟩
              case measure => simp [intOf]; omega
            · obtain rfl : j = k4 := by omega
              have HG6 := Lib.hid (HG5.out.keep ((Kept.refl [] w4).drewN d))
              have HKY := Lib.hid (string_key nm HOK.out.nm)
              have HAF := Lib.hid (show ∀ b ∈ ft a4, b < (w4.drewN d).heap.size ∧ w.heap.size ≤ b ∧ b ∉ F4 ∧ b ≠ mi ∧ b ≠ mo ∧ b ≠ mt from fun b hb => by
                obtain ⟨f1, f2, f3, f4⟩ := HF4.out b hb
                have l1 := HGLT.out
                exact ⟨f1, by omega, f3, by omega, by omega, by omega⟩)
              go_wp2_with (at_mapUpdate; refine wpList_updG rfl rfl string_law Try.underlying34 rfl rfl rfl HG6.out.gi HKY.out ?_; intro w6 hm6 hk6)
              have HG7 := Lib.hid (HG6.out.setIn HNE.out (by rw [rowFrom_length]; exact hm6) hk6 (HO5.out.sln.kept0 ((Kept.refl [] w4).drewN d)) HAF.out)
              clear hm6 hk6
              go_wp2_with fail
              go_roundw
              case rel => exact ⟨k + 1, F4, R4, _, _, lo, by omega, by omega, by go_num, HG7.out, by rw [List.map_append, HEI.out]; rfl, HEO.out, HF5.out⟩
              case measure => simp [intOf]; omega
        · have t0 : (what == 0) = false := by simpa using w0
          by_cases w1' : what = 1
          · subst w1'
            have r4 := did_1 (N := N) (s := ⟨1, nm, sn, a, bb, c, lits⟩) rfl
            simp only at r4
            obtain ⟨bo, hbo⟩ : ∃ bo, bo = decide (sn % 2 ≠ 0) := ⟨_, rfl⟩
            rw [← hbo] at r4
            have HG5 := Lib.hid (show Gives w w4 n mi mo mt F4 R4 (addReg N bo).1 li lo N.regs from by have h := HG4.out; rw [r4] at h; exact h)
            obtain ⟨x, hx⟩ : ∃ x, x = 2 * N.g.nodes.length := ⟨_, rfl⟩
            have ho5 : Own w4 44 a4 k4 c4 (nats .u32 [x]) := by have h := HO4.out; rw [r4] at h; rw [hx]; exact h
            have hfi := doesN_fine HFI.out ⟨1, nm, sn, a, bb, c, lits⟩
            rw [r4] at hfi
            have HF5 := Lib.hid hfi
            have hk4 : k4 = 1 := by have h := ho5.len; simpa [nats] using h.symm
            subst hk4
            obtain ⟨ad, rfl, hcx⟩ := ho5.sln 0 (by simp)
            obtain ⟨g4, hg4⟩ := ho5.form (by omega)
            injection hg4 with hg4
            subst hg4
            have hcx : w4.cell? ⟨g4, 0, none⟩ = some (.int .u32 (x : Int)) := by simpa [add_at] using hcx
            have hn0 : n0 ≤ 4000 := by rw [HN0.out]; exact lenN
            have HN := Lib.hid (fun (W : World) => show Calls Try.prog 9 #[.int .u32 x] W fun e w' => e = .returned (.int .i64 (n0 : Nat)) ∧ W = w' from by
              have h := lit_node x W (by omega)
              rw [show x / 2 = n0 by have := HN0.out; omega] at h
              exact h)
            have HT := Lib.hid (fun (W : World) => show Calls Try.prog 10 #[.int .u32 x] W fun e w' => e = .returned (.bool false) ∧ W = w' from by
              have h := lit_turned x W (by omega)
              rw [show decide (x % 2 = 1) = false by rw [decide_eq_false_iff_not]; omega] at h
              exact h)
            have HKY := Lib.hid (lit_key x (by omega))
            have HNQ := Lib.hid (show ∀ r ∈ N.regs, r.q ≠ x from fun r hr => by
              have := drivenN_lt HFI.out r.q (List.mem_append_right _ (List.mem_map_of_mem hr))
              omega)
            have HRS := Lib.hid (show (addReg N bo).1.regs = N.regs ++ [⟨x, 0, 0, bo⟩] from by rw [hx]; rfl)
            clear r4 ho5 hfi HG4 HO4 hy0 e1 e2 e3 e4 e5 e6 hbo hx
            go_wp2_with fail
            refine (HN.out _).mono ?_
            rintro e w' ⟨rfl, rfl⟩
            go_wp2_with fail
            refine (HT.out _).mono ?_
            rintro e w' ⟨rfl, rfl⟩
            go_wp2_with (at_mapUpdate; refine wpList_updG (key := .int .u32 (x : Int)) (val := .agg #[.int .u32 0, .int .u32 0]) rfl rfl lit_law Try.underlying35 rfl rfl rfl HG5.out.gt HKY.out ?_; intro w6 hm6 hk6)
            have HG7 := Lib.hid (HG5.out.setT (lr' := N.regs ++ [⟨x, 0, 0, bo⟩]) (by
              rw [takeF_snoc HNQ.out] at hm6
              have hnone : takeF N.regs (.int .u32 (x : Int)) = none := by
                have hn : N.regs.find? (fun r => decide ((r.q : Int) = (x : Int))) = none := by
                  rw [List.find?_eq_none]
                  intro r hr
                  have := HNQ.out r hr
                  simp only [decide_eq_true_eq]
                  omega
                simp only [takeF, hn]
                rfl
              rw [hnone] at hm6
              simpa using hm6) hk6)
            clear hm6 hk6
            go_wp2_with fail
            go_roundw
            case rel => exact ⟨k + 1, F4, R4, (addReg N bo).1, li, lo, by omega, by omega, by go_num, by rw [HRS.out]; exact HG7.out, HEI.out, HEO.out, HF5.out⟩
            case measure => simp [intOf]; omega
          · have t1 : (what == 1) = false := by simpa using w1'
            by_cases w2' : what = 2
            · subst w2'
              obtain ⟨jr, hjr, r4⟩ := did_2 (N := N) (s := ⟨2, nm, sn, a, bb, c, lits⟩) rfl (by rw [← HY.out]; exact hy0)
              simp only at r4 hjr
              have HG5 := Lib.hid (show Gives w w4 n mi mo mt F4 R4 { N with regs := putR N.regs jr bb c } li lo N.regs from by have h := HG4.out; rw [r4] at h; exact h)
              have hfi := doesN_fine HFI.out ⟨2, nm, sn, a, bb, c, lits⟩
              rw [r4] at hfi
              have HF5 := Lib.hid hfi
              have HKY := Lib.hid (lit_key a HOK.out.a)
              have HTP := Lib.hid (takeF_put hjr bb c)
              have HSM := Lib.hid (takeF_some hjr)
              obtain ⟨dv, ev, hdv⟩ : ∃ dv ev : Nat, takeF N.regs (.int .u32 (a : Int)) = some (.agg #[.int .u32 (dv : Int), .int .u32 (ev : Int)]) := by
                have h := HSM.out
                unfold takeF at h ⊢
                simp only [Option.isSome_map] at h
                obtain ⟨r, hr⟩ := Option.isSome_iff_exists.1 h
                exact ⟨r.d, r.en, by simp only [hr]; rfl⟩
              have HDV := Lib.hid hdv
              have hz2 : ∀ W, (zeroValue 46).run Try.prog W = .ok (.agg #[.int .u32 0, .int .u32 0]) W := fun _ => by kernel_rfl
              clear r4 hfi HG4 HO4 hy0 hjr hdv
              have hlook : (Instr.lookup 35 (.map (some mt)) (.int .u32 (a : Int)) true).run Try.prog w4 = .ok (.tuple #[.agg #[.int .u32 (dv : Int), .int .u32 (ev : Int)], .bool true]) w4 := by
                obtain ⟨kl, hkl⟩ := HKY.out
                have h := HG5.out.gt.v.look true lit_law Try.underlying35 (hz2 _) hkl
                rw [HDV.out] at h
                exact h
              clear hz2
              have e3' := fun o => cell_alloc e3 o
              have e4' := fun o => cell_alloc e4 o
              have e5' := fun o => cell_alloc e5 o
              have HG6 := Lib.hid (HG5.out.keep ((Kept.refl [] w4).alloc (.cells #[.int .u32 (dv : Int), .int .u32 (ev : Int)] 46)))
              go_wp2_with (at_mapUpdate; refine wpList_updG (key := .int .u32 (a : Int)) (val := .agg #[.int .u32 (bb : Int), .int .u32 (c : Int)]) rfl rfl lit_law Try.underlying35 rfl rfl rfl HG6.out.gt HKY.out ?_; intro w6 hm6 hk6)
              have HG7 := Lib.hid (HG6.out.setT (lr' := putR N.regs jr bb c) (by
                rw [HTP.out, HSM.out, if_pos rfl] at hm6
                rw [show (putR N.regs jr bb c).length = N.regs.length by simp [putR]]
                exact hm6) hk6)
              clear hm6 hk6 hlook e3' e4' e5'
              go_wp2_with fail
              go_roundw
              case rel => exact ⟨k + 1, F4, R4, { N with regs := putR N.regs jr bb c }, li, lo, by omega, by omega, by go_num, HG7.out, HEI.out, HEO.out, HF5.out⟩
              case measure => simp [intOf]; omega
            · have t2 : (what == 2) = false := by simpa using w2'
              by_cases w3' : what = 3
              · subst w3'
                obtain ⟨r3, r4⟩ := did_3 (N := N) (s := ⟨3, nm, sn, a, bb, c, lits⟩) rfl (by rw [← HY.out]; exact hy0)
                simp only at r3 r4
                have HG5 := Lib.hid (show Gives w w4 n mi mo mt F4 R4 { N with outb := N.outb ++ [⟨nm, lits.take 70⟩] } li lo N.regs from by have h := HG4.out; rw [r4] at h; exact h)
                have hfi := doesN_fine HFI.out ⟨3, nm, sn, a, bb, c, lits⟩
                rw [r4] at hfi
                have HF5 := Lib.hid hfi
                have HNE := Lib.hid (show ∀ r ∈ lo, r.b.name ≠ nm from fun r hr => r3 r.b (by rw [← HEO.out]; exact List.mem_map_of_mem hr))
                obtain ⟨kl, hkl⟩ := string_key nm HOK.out.nm
                have HKL := Lib.hid hkl
                clear hkl
                have hll : ln ≤ 140737488351232 := by rw [HLN.out]; exact HOK.out.ll
                have HLA4 := Lib.hid (HLA.out.kept0 HG4.out.kept)
                have HLE := Lib.hid HLN.out.symm
                have HLL := Lib.hid (show (lits.take 70).length = min ln 70 from by rw [HLN.out]; simp [Nat.min_comm])
                clear r3 r4 hfi HG4 HO4 hy0 e2 e3 e4 e5
                go_wp2_with fail
                go_region_held3 (fun w' => w'.cell? ⟨q, 1, none⟩ = some (.string nm) ∧ w'.cell? ⟨q, 6, none⟩ = some (.slice la ln lc))
                  (first | exact ⟨Kept.cell (F := [mo]) (w := w4) (by (repeat (first | with_reducible exact Kept.refl _ _ | with_reducible apply Kept.drew | with_reducible apply Kept.drewN | with_reducible apply Kept.alloc | refine Kept.trans ?_ hk6 | refine Kept.trans ?_ (k5.more (by simp))))) e1 HQM.out, Kept.cell (F := [mo]) (w := w4) (by (repeat (first | with_reducible exact Kept.refl _ _ | with_reducible apply Kept.drew | with_reducible apply Kept.drewN | with_reducible apply Kept.alloc | refine Kept.trans ?_ hk6 | refine Kept.trans ?_ (k5.more (by simp))))) e6 HQM.out⟩ | go_keep)
                  (first
                    | (go_at_call 11; (with_reducible refine (of_c la lc ln lits _ HLE.out hll (HLA4.out.kept0 ?kk)).mono ?_); (case kk => ((repeat (first | with_reducible exact Kept.refl _ _ | with_reducible apply Kept.drew | with_reducible apply Kept.drewN | with_reducible apply Kept.alloc)))); rintro e w5 ⟨a5, c5, rfl, ho5, hst5⟩; have k5 := hst5.kept; obtain ⟨w6, hrun6, hm6, hk6⟩ := (MapG.kept (F := []) HG5.out.go (show Kept [] w4 w5 from by (repeat (first | with_reducible exact Kept.refl _ _ | with_reducible apply Kept.drew | with_reducible apply Kept.drewN | with_reducible apply Kept.alloc | refine Kept.trans ?_ k5))) (by simp)).update (e := 41) string_law Try.underlying34 (val := .slice a5 (min ln 70) c5) HKL.out))
                all_goals
                  have K45 := Lib.hid (show Kept [] w4 w5 from by (repeat (first | with_reducible exact Kept.refl _ _ | with_reducible apply Kept.drew | with_reducible apply Kept.drewN | with_reducible apply Kept.alloc | refine Kept.trans ?_ k5)))
                  have HF5' := Lib.hid (show ∀ b ∈ ft a5, w4.heap.size ≤ b ∧ b < w5.heap.size from fun b hb => ⟨by
                    rcases hst5.fresh b hb with h | h
                    · simp at h
                    · exact h, ho5.lt b hb⟩)
                  have HG7 := Lib.hid ((HG5.out.keep K45.out).setOut (row := lits.take 70) (a := a5) (c := c5) HNE.out (by rw [HLL.out]; exact hm6) hk6 ho5.sln (fun b hb => by
                    obtain ⟨f1, f2⟩ := HF5'.out b hb
                    have l1 := HG5.out.gi.lt
                    have l2 := HG5.out.go.lt
                    have l3 := HG5.out.gt.lt
                    have l4 := HG5.out.kept.size
                    exact ⟨f2, by omega, fun h => by have := HG5.out.net.lt.1 b h; omega, by omega, by omega, by omega⟩))
                  clear hm6 hk6 hrun6 hst5 k5 ho5 e1 e6
                  go_wp2_with fail
                  go_roundw
                  case rel => exact ⟨k + 1, F4, R4, { N with outb := N.outb ++ [⟨nm, lits.take 70⟩] }, li, _, by omega, by omega, by go_num, HG7.out, HEI.out, by rw [List.map_append, HEO.out]; rfl, HF5.out⟩
                  case measure => simp [intOf]; omega
              · have t3 : (what == 3) = false := by simpa using w3'
                have HNO := Lib.hid (did_4 (N := N) (s := ⟨what, nm, sn, a, bb, c, lits⟩) w0 w1' w2' w3')
                clear w0 w1' w2' w3' hy0
                go_wp2_with fail
                go_roundw
                case rel => exact ⟨k + 1, F4, R4, _, li, lo, by omega, by omega, by go_num, by rw [HNO.out.2.1]; exact HG4.out, by rw [HNO.out.1]; exact HEI.out, by rw [HNO.out.2.2]; exact HEO.out, doesN_fine HFI.out _⟩
                case measure => simp [intOf]; omega
      · have HNO := Lib.hid (did_not (N := N) (s := ⟨what, nm, sn, a, bb, c, lits⟩) (by rw [← HY.out]; exact hy0))
        have t1 : ((y : Int) != 0) = true := by simpa using hy0
        have t2 : ((y : Int) == 0) = false := by simpa using hy0
        subst he
        clear hy0
        go_wp2_with fail
        go_roundw
        case rel => exact ⟨k + 1, F4, R4, _, li, lo, by omega, by omega, by go_num, by rw [HNO.out.2.1]; exact HG4.out, by rw [HNO.out.1]; exact HEI.out, by rw [HNO.out.2.2]; exact HEO.out, doesN_fine HFI.out _⟩
        case measure => simp [intOf]; omega
    · rcases (show (k < len ∧ ¬ k < 60) ∨ (¬ k < len ∧ True) from by by_cases h : k < len; exact .inl ⟨h, by omega⟩; exact .inr ⟨h, trivial⟩) with ⟨h1, h2⟩ | ⟨h1, h2⟩
      all_goals
        clear hlt
        have b58 := Lib.hid (show MapG wr Try.prog 9 mi (rowF li) li.length from HG.out.gi)
        go_wp2_with (at_range; refine wpList_rangeG rfl rfl Try.underlying34 rfl b58.out ?_; intro w5 hrg hk5 hsz5)
        go_frame
        obtain ⟨r, hr⟩ : ∃ r, r = wr.heap.size := ⟨_, rfl⟩
        have FA := Lib.hid HG.out.mkFar
        rw [← hr] at hrg FA ⊢
        have RG := Lib.hid hrg
        have HG5 := Lib.hid (HG.out.keep hk5)
        clear hrg hk5 hsz5 hr b58
        go_loopg [20] li.length (fun gf v wr2 => ∃ todo, RangeG wr2 Try.prog 9 mi (rowF li) li.length r gf todo ∧ Gives w wr2 n mi mo mt F R N li lo N.regs)
        case atStart => exact ⟨_, RG.out, HG5.out⟩
        case round =>
          obtain ⟨todo, hrg, hG2⟩ := hrel
          have RGr := Lib.hid hrg
          have HG2 := Lib.hid hG2
          clear hrg hG2
          go_wp2_with (at_next; refine wpList_nextG rfl rfl rfl RGr.out ?_ ?_)
          · intro hdone
            clear hdone RGr FA HG5 RG
            have HGa := HG2
            clear HG2
            have b58 := Lib.hid (show MapG wr Try.prog 9 mo (rowF lo) lo.length from HGa.out.go)
            go_wp2_with (at_range; refine wpList_rangeG rfl rfl Try.underlying34 rfl b58.out ?_; intro w5b hrg hk5 hsz5)
            go_frame
            obtain ⟨rb, hr⟩ : ∃ r, r = wr.heap.size := ⟨_, rfl⟩
            have FA := Lib.hid HGa.out.mkFar
            rw [← hr] at hrg FA ⊢
            have RG := Lib.hid hrg
            have HG5 := Lib.hid (HGa.out.keep hk5)
            clear hrg hk5 hsz5 hr b58
            go_loopg [24] lo.length (fun gf v wr3 => ∃ todo, RangeG wr3 Try.prog 9 mo (rowF lo) lo.length rb gf todo ∧ Gives w wr3 n mi mo mt F R N li lo N.regs)
            case atStart => exact ⟨_, RG.out, HG5.out⟩
            case round =>
              obtain ⟨todob, hrg, hG2⟩ := hrel
              have RGr := Lib.hid hrg
              have HG2 := Lib.hid hG2
              clear hrg hG2
              go_wp2_with (at_next; refine wpList_nextG rfl rfl rfl RGr.out ?_ ?_)
              · intro hdone
                clear hdone RGr FA HG5 RG
                have HGb := HG2
                clear HG2
                obtain ⟨ra, rc, c3, hsr⟩ := HGb.out.net.regs
                have HSR := Lib.hid hsr
                obtain ⟨nR, hnR⟩ : ∃ k, k = N.regs.length := ⟨_, rfl⟩
                have HNR := Lib.hid hnR
                rw [← hnR] at c3
                have HND := Lib.hid (show (N.regs.map (·.q)).Nodup from by
                  have h := HFI.out.dn
                  unfold drivenN at h
                  rw [List.nodup_append] at h
                  exact h.2.1)
                have HQB := Lib.hid (show ∀ r ∈ N.regs, r.q < 4294967296 from fun r hr => by
                  have h1 := drivenN_lt HFI.out r.q (List.mem_append_right _ (List.mem_map_of_mem hr))
                  have h2 := HFI.out.ok.len
                  omega)
                have hnR2 : nR ≤ 1000 := by have h2 := HFI.out.ok.rk; omega
                clear hsr hnR
                go_wp2_with fail
                obtain ⟨wq, rfl⟩ : ∃ v : World, v = wr := ⟨_, rfl⟩
                go_loopw [229] (fun v wr4 => ∃ j : Nat, j ≤ nR ∧ v = .int .i64 j ∧ Kept [] wq wr4) (fun v _ => nR - (intOf v).toNat)
                case atStart => exact ⟨0, Nat.zero_le _, rfl, .refl _ _⟩
                case round =>
                  obtain ⟨j, hj, rfl, hkj⟩ := hrel
                  have KJ := Lib.hid hkj
                  clear hkj
                  by_cases hlt7 : j < nR
                  · have hjl : j < N.regs.length := by rw [← HNR.out]; exact hlt7
                    obtain ⟨gb, rfl, q0, q1, q2, q3⟩ := (HSR.out.kept0 KJ.out) j hjl
                    have HTG := Lib.hid (takeF_get HND.out (List.getElem_mem hjl))
                    have hx32 := HQB.out _ (List.getElem_mem hjl)
                    generalize N.regs[j] = rg at *
                    obtain ⟨x, yd, ye, bi⟩ := rg
                    simp only at q0 q1 q2 q3 HTG hx32
                    have hz2 : ∀ W, (zeroValue 46).run Try.prog W = .ok (.agg #[.int .u32 0, .int .u32 0]) W := fun _ => by kernel_rfl
                    have hlook : ∀ o, (Instr.lookup 35 (.map (some mt)) (.int .u32 (x : Int)) true).run Try.prog (wr.alloc o) = .ok (.tuple #[.agg #[.int .u32 (yd : Int), .int .u32 (ye : Int)], .bool true]) (wr.alloc o) := fun o => by
                      obtain ⟨kl, hkl⟩ := lit_key x hx32
                      have h := (HGb.out.keep (KJ.out.alloc o)).gt.v.look true lit_law Try.underlying35 (hz2 _) hkl
                      rw [HTG.out] at h
                      exact h
                    clear hz2
                    have htw := fun W => two_eq W (yd : Int) (ye : Int)
                    go_wp2_with fail
                    go_roundw
                    case rel => exact ⟨j + 1, by omega, by go_num, (KJ.out.alloc _).alloc _⟩
                    case measure => simp [intOf]; omega
                  · obtain rfl : j = nR := by omega
                    have HGc := Lib.hid (HGb.out.keep (KJ.out.drew))
                    obtain ⟨ia, ic, oa, oc, g2, g4⟩ := HGc.out.net.buses
                    have hli : li.length = N.inb.length := by rw [← HEI.out]; simp
                    have hlo : lo.length = N.outb.length := by rw [← HEO.out]; simp
                    have e1 : ∀ ty, (Builtin.len_ #[34] ty #[.map (some mi)]).run Try.prog wr.drew = .ok (.int .i64 (N.inb.length : Nat)) wr.drew := fun ty => by
                      have h := HGc.out.gi.len Try.underlying34 ty
                      rw [hli] at h
                      exact h
                    have e2 : ∀ ty, (Builtin.len_ #[34] ty #[.map (some mo)]).run Try.prog wr.drew = .ok (.int .i64 (N.outb.length : Nat)) wr.drew := fun ty => by
                      have h := HGc.out.go.len Try.underlying34 ty
                      rw [hlo] at h
                      exact h
                    have e3 : ∀ ty, (Builtin.len_ #[35] ty #[.map (some mt)]).run Try.prog wr.drew = .ok (.int .i64 (j : Nat)) wr.drew := fun ty => by
                      have h := HGc.out.gt.len Try.underlying35 ty
                      rw [← HNR.out] at h
                      exact h
                    have HB := Lib.hid (bits_c HGc.out.net)
                    rw [← HNR.out] at HB
                    obtain ⟨nI, hnI⟩ : ∃ k, k = N.inb.length := ⟨_, rfl⟩
                    obtain ⟨nO, hnO⟩ : ∃ k, k = N.outb.length := ⟨_, rfl⟩
                    rw [← hnI] at g2 e1
                    rw [← hnO] at g4 e2
                    clear hli hlo hnI hnO hj hlt7
                    go_wp2_with fail
                    refine wp_region_still_tail 26 (by kernel_rfl) (by kernel_rfl) ?_
                    simp only [List.take_succ_cons, List.take_zero, List.drop_succ_cons, List.drop_zero]
                    repeat still_step
                    still_call (HB.out.mono fun _ _ ⟨h1, h2⟩ => ⟨h1, h2.symm⟩)
                    repeat still_step
                    refine wpStill_nil ?_
                    change wpList _ _ _ _ _ wr.drew
                    have KE := Lib.hid HGc.out.kept
                    go_wp2_with fail
                    refine (tells6 _).mono ?_
                    rintro e w9 ⟨rfl, hk9⟩
                    have K9 := Lib.hid (KE.out.trans hk9)
                    clear hk9 e1 e2 e3 g2 g4
                    go_wp2_with fail
                    go_ret
                    exact ⟨rfl, K9.out.below⟩
              · intro key v w6 left' hkv hrg2 hlt5 hk6 hen
                obtain ⟨x, hx, rfl, rfl⟩ := rowF_get hkv
                have HG6 := Lib.hid (HG2.out.far FA.out hk6)
                have RG6 := Lib.hid hrg2
                obtain ⟨ia, ic, c2, hfd⟩ := find_out HG6.out.net HFI.out (by omega) (b := x.b) (by rw [← HEO.out]; exact List.mem_map_of_mem hx)
                have HFD := Lib.hid hfd
                have HXR := Lib.hid ((HG6.out.rows x (List.mem_append_right _ hx)).1)
                have HXL := Lib.hid (show x.b.lits.length ≤ 1000000 from by
                  have := (HFI.out.ok.ol x.b (by rw [← HEO.out]; exact List.mem_map_of_mem hx)).2.1
                  omega)
                obtain ⟨lx, hlx⟩ : ∃ l, l = x.b.lits.length := ⟨_, rfl⟩
                have HLX := Lib.hid hlx
                rw [← hlx] at hen
                clear hkv hrg2 hk6 hfd hx hlx
                go_wp2_with fail
                refine HFD.out.mono ?_
                rintro e w7 ⟨a7, c7, rfl, ho7, hs7⟩
                have HO7 := Lib.hid ho7
                have K7 := Lib.hid hs7.kept
                rw [← HLX.out]
                clear ho7 hs7 c2 hen
                go_wp2_with fail
                refine (same_c a7 x.a c7 x.c lx x.b.lits _ HLX.out.symm (by rw [HLX.out]; exact HXL.out) HO7.out.sln (HXR.out.kept0 K7.out)).mono ?_
                rintro e w8 ⟨rfl, m8, hm8⟩
                have K8 := Lib.hid (show Kept [] w6 w8 from by rw [hm8]; exact K7.out.drewN m8)
                clear hm8
                go_wp2_with fail
                go_roundg left'
                case measure => omega
                case rel => exact ⟨_, RG6.out.kept K8.out (by simp) (by simp), HG6.out.keep K8.out⟩
          · intro key v w6 left' hkv hrg2 hlt5 hk6 hen
            obtain ⟨x, hx, rfl, rfl⟩ := rowF_get hkv
            have HG6 := Lib.hid (HG2.out.far FA.out hk6)
            have RG6 := Lib.hid hrg2
            obtain ⟨ia, ic, c2, hfd⟩ := find_in HG6.out.net HFI.out (by omega) (b := x.b) (by rw [← HEI.out]; exact List.mem_map_of_mem hx)
            have HFD := Lib.hid hfd
            have HXR := Lib.hid ((HG6.out.rows x (List.mem_append_left _ hx)).1)
            have HXL := Lib.hid (show x.b.lits.length ≤ 1000000 from by
              have := (HFI.out.ok.il x.b (by rw [← HEI.out]; exact List.mem_map_of_mem hx)).2.1
              omega)
            obtain ⟨lx, hlx⟩ : ∃ l, l = x.b.lits.length := ⟨_, rfl⟩
            have HLX := Lib.hid hlx
            rw [← hlx] at hen
            clear hkv hrg2 hk6 hfd hx hlx
            go_wp2_with fail
            refine HFD.out.mono ?_
            rintro e w7 ⟨a7, c7, rfl, ho7, hs7⟩
            have HO7 := Lib.hid ho7
            have K7 := Lib.hid hs7.kept
            rw [← HLX.out]
            clear ho7 hs7 c2 hen
            go_wp2_with fail
            refine (same_c a7 x.a c7 x.c lx x.b.lits _ HLX.out.symm (by rw [HLX.out]; exact HXL.out) HO7.out.sln (HXR.out.kept0 K7.out)).mono ?_
            rintro e w8 ⟨rfl, m8, hm8⟩
            have K8 := Lib.hid (show Kept [] w6 w8 from by rw [hm8]; exact K7.out.drewN m8)
            clear hm8
            go_wp2_with fail
            go_roundg left'
            case measure => omega
            case rel => exact ⟨_, RG6.out.kept K8.out (by simp) (by simp), HG6.out.keep K8.out⟩

set_option maxRecDepth 100000 in
theorem netgives_lifted (os : Os) (started : os.Started) (H : Type) (enc : TypeId × Value → H) :
    ReturnsInHanded {} Try.checked os 3 .any (Rows.netGivesSpec.pre6 enc Try.prog Try.f3 Rows.netGivesRow.domain false) (Rows.netGivesSpec.post enc Try.prog Try.f3 false true false false) := by
  refine returnsInHanded_of_change_sized (C := Try.checked) own started (by kernel_rfl) Try.func3
    (ChangeSpec.witness6 (enc := enc) (C := Try.checked) false ⟨#[], #[.agg #[.bool false, .bool false], .slice none 0 0], []⟩ 8 (by kernel_rfl) (by kernel_rfl) (by kernel_rfl) (by kernel_rfl)) ?_
  intro W base args ds gs before hval0 hW _ hsz0 _
  have hval : ∀ (j : Nat) t v, Try.f3.params[j]? = some t → args[j]? = some v → Value.okWide Try.prog W .any base t v := hval0
  have hend := fun W' (hb : Below W.heap.size W W') => law_post (s := Rows.netGivesSpec) (fn := Try.f3) laidOut (by kernel_rfl) rfl ⟨4, rfl, Try.underlying4⟩ (fun l hl => by match l, hl with | [_, _], _ => rfl) hW hb
  obtain ⟨p, q, hA0, hV, rfl, hfz, hnd⟩ := hW
  have hA : DataW.TrodAll enc Try.prog W 0 (fun _ => true) true Try.f3.params.toList args.toList ds p := hA0
  have hsz : (DataW.weightsEach Try.prog (Try.f3.params.toList ++ Rows.netGivesSpec.plain.varTypes Try.prog) (ds ++ gs)).all (· ≤ reachBytes) = true := hsz0
  rw [Try.params3] at hA hval hsz
  obtain ⟨v0, vs0, d0, ds0, p0, q0, hargs, rfl, rfl, h0, r0⟩ := trodAll_cons hA
  obtain ⟨v1, vs1, d1, ds1, p1, q1, rfl, rfl, rfl, h1, r1⟩ := trodAll_cons r0
  obtain ⟨rfl, rfl, rfl⟩ := trodAll_nil r1
  obtain rfl : args = #[v0, v1] := by cases args; simp_all
  obtain ⟨rfl, rfl⟩ := trodVars_none hV
  obtain ⟨oa0, ob0, rfl⟩ := open_opts (hval 0 23 v0 rfl rfl) h0 (Sized.arg (j := 0) hsz rfl rfl)
  obtain ⟨na1, nl1, nc1, rfl, nm1, ns1, no1⟩ := open_nsteps (hval 1 24 v1 rfl rfl) h1 (Sized.arg (j := 1) hsz rfl rfl)
  refine (netgives_walk oa0 ob0 na1 nl1 nc1 W nm1 ns1 no1).mono fun e W' ⟨he, hb⟩ => ?_
  subst he
  exact hend W' hb

theorem netgives_over : Rows.netGivesRow.holds Try.pinned (OpenSpec.ofChange Rows.netGivesSpec) :=
  OpenClaim.holds_of_wide 3 Try.f3 rfl rfl rfl rfl rfl rfl rfl ⟨rfl, rfl, rfl, rfl, rfl⟩ rfl rfl rfl rfl rfl (by kernel_rfl) Try.func3 (by kernel_rfl)
    (of_decide_eq_true (by kernel_rfl)) (by unfold Func.isWrapper; first | (rw [if_pos (by decide +kernel)]; kernel_rfl) | (rw [if_neg (by decide +kernel)]; exact ⟨rfl, rfl⟩))
    (fun os started H enc _ => netgives_lifted os started H enc)

theorem netGives_holds : Rows.NetGivesSaid := netgives_over
end Go.Proofs.Ythiccfaldahmhaa
