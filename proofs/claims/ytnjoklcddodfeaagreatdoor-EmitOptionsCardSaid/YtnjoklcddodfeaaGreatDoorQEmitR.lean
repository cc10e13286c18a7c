/-
  Law 10: EmitOptions, the walk.
-/
import Derived.Test.YtnjoklcddodfeaaGreatDoorQEmitQ
namespace Go.Proofs.YtnjoklcddodfeaaGreatDoor
open Go.ChangeShapes Go.WideShapes Go.ChangeAt Go.RowKit
open Go.Maps (Keyed)
open Go.WideMaps
set_option linter.unusedVariables false
set_option linter.unusedSimpArgs false

variable {w w' W W' : World} {p n k : Nat} {F R F' R' S : List Nat} {g : Gr} {N : Nt}
set_option maxHeartbeats 6400000 in
set_option maxRecDepth 100000 in
theorem options_c (o1 o2 p1 p2 : Bool) (sa : Option Addr) (sl : List NStp) (sc len : Nat) (w : World) (hlen : sl.length = len) (hss : SlNStepsC w sa sl) (hso : ∀ s ∈ sl, s.ok) (hL : PowLaid w) :
    Calls Tryz.prog 3 #[.agg #[.bool o1, .bool o2], .agg #[.bool p1, .bool p2], .slice sa len sc] w fun e w' => e = .returned (.bool true) ∧ Kept [] w w' := by
  have HB := Lib.hid (fun (V : World) (hV : Kept [] w V) => built10 o1 o2 sa sl sc len V hlen (SlNStepsC.kept0 hss hV) hso)
  obtain ⟨N, hN⟩ : ∃ N, N = builtN false o1 o2 sl 60 := ⟨_, rfl⟩
  have hf : NtFine 60 N := by rw [hN]; exact builtN_fine false o1 o2 sl 60
  unfold BuiltPost at HB
  rw [← hN] at HB
  have HF := Lib.hid hf
  have HL := Lib.hid hL
  have hl1 := hf.ok.len
  have HNS := Lib.hid (show N.name.size ≤ 140737488351232 from by have := mayB_len hf.nm; have e : (bytesL N.name).length = N.name.size := rfl; omega)
  clear hlen hss hso hN hf hL
  go_enter Tryz.func3, Tryz.ntmps3; (try simp only [List.append])
  go_wp2_with fail
  obtain ⟨V0, hV0⟩ : ∃ V, V = ((w.alloc (.cells #[.bool o1, .bool o2] 23)).alloc (.cells #[.bool p1, .bool p2] 23)) := ⟨_, rfl⟩
  have k0 : Kept [] w V0 := by rw [hV0]; exact ((Kept.refl [] w).alloc _).alloc _
  have e0 : V0.cell? ⟨w.heap.size + 1, 0, none⟩ = some (.bool p1) := by
    have h := blk_cell (World.alloc_heap_new (w.alloc (.cells #[.bool o1, .bool o2] 23)) (.cells #[.bool p1, .bool p2] 23)) 0
    rw [World.size_alloc] at h
    rw [hV0]
    exact h
  have e1 : V0.cell? ⟨w.heap.size + 1, 1, none⟩ = some (.bool p2) := by
    have h := blk_cell (World.alloc_heap_new (w.alloc (.cells #[.bool o1, .bool o2] 23)) (.cells #[.bool p1, .bool p2] 23)) 1
    rw [World.size_alloc] at h
    rw [hV0]
    exact h
  rw [← hV0]
  have K0 := Lib.hid k0
  clear hV0
  refine (HB.out V0 k0).mono ?_
  rintro e w1 ⟨n, F, R, q, F2, R2, rfl, hB⟩
  clear k0
  have K1 := Lib.hid (K0.out.trans hB.kept)
  have N1 := Lib.hid hB.net
  have c0 := hB.kept.cell e0 (by simp)
  have c1 := hB.kept.cell e1 (by simp)
  have n1 : w1.cell? ⟨n, 1, none⟩ = some (.string N.name) := by
    obtain ⟨p, G, ia, ic, ra, rc, oa, oc, ri, ro, rfl, rfl, hc⟩ := N1.out
    exact hc.c1
  clear hB e0 e1
  have HNEW := Lib.hid (fun V => new_net N.name p1 p2 V HNS.out HF.out.nm)
  go_wp2_with fail
  go_region_held3 (fun V => V.cell? ⟨w.heap.size + 1, 0, none⟩ = some (.bool p1) ∧ V.cell? ⟨w.heap.size + 1, 1, none⟩ = some (.bool p2) ∧ V.cell? ⟨n, 1, none⟩ = some (.string N.name))
    (refine ⟨?_, ?_, ?_⟩ <;> (repeat (first | with_reducible assumption | with_reducible refine cell_drew' ?_ | with_reducible refine Kept.cell k2 ?_ List.not_mem_nil)))
    (first
      | (go_at_call 7; (with_reducible refine (HNEW.out _).mono ?_); rintro e w2 ⟨m, Fm, rfl, hm, k2, hfm⟩))
  obtain ⟨nl, hnl⟩ : ∃ nl, nl = N.g.nodes.length := ⟨_, rfl⟩
  obtain ⟨pN, GN, ia, ic, ra, rc, oa, oc, ri, ro, hF, hR, hc⟩ := N1.out
  have HC := Lib.hid hc
  have HFR := Lib.hid (And.intro hF hR)
  have HLT := Lib.hid (show ∀ x ∈ F ++ R, x < w1.heap.size from fun x hx => by
    rcases List.mem_append.1 hx with h | h
    · exact N1.out.lt.1 x h
    · exact N1.out.lt.2 x h)
  have hA : ∃ pM GM, AgainAt w1 w2 n F R N m pM GM p1 p2 1 := by
    obtain ⟨pM, GM, ia', ic', ra', rc', oa', oc', ri', ro', hF', hR', hcm⟩ := hm
    have kk : Kept [] w1 w2 := (Kept.refl [] w1).drew.trans k2
    refine ⟨pM, GM, N1.out.kept0 kk, kk, ?_, fun b hb => hfm b (by rw [hF']; simp [hb]), hfm m (by rw [hF']; simp), ?_, _, _, _, hcm.blk⟩
    · have h := hcm.gr
      rw [← cutN_one HF.out.ok.wf] at h
      exact h
    · exact hcm.gr.apart_blk hcm.blk (by decide) (by decide) (by decide)
  obtain ⟨pM, GM, hA⟩ := hA
  have A1 := Lib.hid hA
  have HNL := Lib.hid hnl
  have m0 := hA.c0
  have hpos : 1 ≤ nl := by rw [hnl]; exact HF.out.ok.wf.pos
  rw [← hnl] at hl1
  clear hm k2 hfm hc hA hF hR hnl c0 c1 n1
  go_wp2_with fail
  clear m0
  go_loopw [11] (fun v wr => ∃ (k : Nat) (G : List Nat), 1 ≤ k ∧ k ≤ nl ∧ v = .int .i64 k ∧ AgainAt w1 wr n F R N m pM G p1 p2 k) (fun v _ => nl - (intOf v).toNat)
  case atStart => exact ⟨1, GM, by omega, hpos, rfl, A1.out⟩
  case round =>
    obtain ⟨k, G, hk1, hk, rfl, hA⟩ := hrel
    have A := Lib.hid hA
    have n0 := hA.kept.cell HC.out.c0 (by simp)
    have HND := Lib.hid (show Calls Tryz.prog 8 #[.pointer (some ⟨pN, 0, none⟩)] wr fun e w' => e = .returned (.int .i64 (nl : Nat)) ∧ wr = w' from by
      rw [HNL.out]
      exact aig_nodes (HC.out.gr.kept0 hA.kept) (by rw [← HNL.out]; omega))
    clear hA
    by_cases hlt : k < nl
    · have HGA := Lib.hid (aig_gateOf (HC.out.gr.kept0 A.out.kept) (by rw [← HNL.out]; omega) (k : Int) (by omega) (by omega))
      have HGE := Lib.hid (gateA_at N.g HF.out.ok.wf k)
      cases hgt : gateAt N.g k with
      | none =>
        have HGP := Lib.hid (show Calls Tryz.prog 9 #[.pointer (some ⟨pN, 0, none⟩), .int .i64 (k : Int)] wr (GatePost (0, 0, false) wr) from by
          have h := HGA.out
          rw [HGE.out, hgt] at h
          exact h)
        have HCU := Lib.hid (cut_input HF.out.ok.wf p1 p2 (by rw [← HNL.out]; exact hlt) hgt)
        have q1 : (k : Int) < (nl : Int) := by omega
        clear hgt HGA HGE
        go_wp2_with fail
        refine HND.out.mono ?_
        rintro e w3 ⟨rfl, rfl⟩
        go_wp2_with fail
        refine HGP.out.mono ?_
        rintro e w3 ⟨rfl, k3⟩
        have A3 := Lib.hid (A.out.keep k3)
        have m0 := A3.out.c0
        have HIN := Lib.hid (aig_input A3.out.gr (by show (List.take k N.g.nodes).length ≤ _; rw [List.length_take]; omega))
        clear k3 n0
        go_wp2_with fail
        refine HIN.out.mono ?_
        intro e w4 hx
        obtain ⟨G4, rfl, hg4, hs4⟩ := hx
        have A4 := Lib.hid (A3.out.grow HLT.out (by rw [HCU.out]; exact hg4) hs4)
        clear hg4 hs4 m0
        go_wp2_with fail
        go_roundw
        case rel => exact ⟨k + 1, G4, by omega, by omega, by go_num, A4.out⟩
        case measure => simp [intOf]; omega
      | some xy =>
        obtain ⟨x, y⟩ := xy
        have HGP := Lib.hid (show Calls Tryz.prog 9 #[.pointer (some ⟨pN, 0, none⟩), .int .i64 (k : Int)] wr (GatePost (x, y, true) wr) from by
          have h := HGA.out
          rw [HGE.out, hgt] at h
          exact h)
        have HCU := Lib.hid (cut_gate HF.out.ok.wf p1 p2 hgt)
        have q1 : (k : Int) < (nl : Int) := by omega
        clear hgt HGA HGE
        go_wp2_with fail
        refine HND.out.mono ?_
        rintro e w3 ⟨rfl, rfl⟩
        go_wp2_with fail
        refine HGP.out.mono ?_
        rintro e w3 ⟨rfl, k3⟩
        have A3 := Lib.hid (A.out.keep k3)
        have m0 := A3.out.c0
        have HIN := Lib.hid (aig_raw A3.out.gr (by show (List.take k N.g.nodes).length ≤ _; rw [List.length_take]; omega) HCU.out.2.1 HCU.out.2.2)
        clear k3 n0
        go_wp2_with fail
        refine HIN.out.mono ?_
        intro e w4 hx
        obtain ⟨G4, rfl, hg4, hs4⟩ := hx
        have A4 := Lib.hid (A3.out.grow HLT.out (by rw [HCU.out.1]; exact hg4) hs4)
        clear hg4 hs4 m0
        go_wp2_with fail
        go_roundw
        case rel => exact ⟨k + 1, G4, by omega, by omega, by go_num, A4.out⟩
        case measure => simp [intOf]; omega
    · obtain rfl : k = nl := by omega
      have q1 : ¬ (k : Int) < (k : Int) := by omega
      go_wp2_with fail
      refine HND.out.mono ?_
      rintro e w3 ⟨rfl, rfl⟩
      obtain ⟨v2, v3, v4, hb⟩ := A.out.blk
      have KB := Lib.hid hb
      have d2 := A.out.kept.cell HC.out.c2 (by simp)
      have d3 := A.out.kept.cell HC.out.c3 (by simp)
      have d4 := A.out.kept.cell HC.out.c4 (by simp)
      have f2 := blk_cell hb 2
      have f3 := blk_cell hb 3
      have f4 := blk_cell hb 4
      have g2 := blk_free hb 2
      have g3 := blk_free hb 3
      have g4 := blk_free hb 4
      have hne : m ≠ n := fun h => by
        have h1 := HLT.out n (by rw [HFR.out.1]; simp)
        have h2 := A.out.mnew
        omega
      clear hb
      go_wp2_with fail
      go_region
      obtain ⟨V1, hV1⟩ : ∃ V, V = (((wr.setCell ⟨m, 2, none⟩ (.slice ia N.inb.length ic)).setCell ⟨m, 3, none⟩ (.slice ra N.regs.length rc)).setCell ⟨m, 4, none⟩ (.slice oa N.outb.length oc)).drew := ⟨_, rfl⟩
      have hD := AgainAt.done (by rw [← HNL.out]; exact A.out) HC.out hV1
      rw [← hV1]
      obtain ⟨⟨F3, R3, hN3⟩, kv⟩ := hD
      have N3 := Lib.hid hN3
      have KV := Lib.hid kv
      obtain ⟨tx, htx⟩ : ∃ tx, tx = textL (linesN N) := ⟨_, rfl⟩
      obtain ⟨tl, htl⟩ : ∃ tl, tl = tx.length := ⟨_, rfl⟩
      obtain ⟨cn, hcn⟩ : ∃ cn, cn = checkN N := ⟨_, rfl⟩
      have HTL := Lib.hid htl
      have HA1 := Lib.hid (all_c V1 (N1.out.kept0 kv) HF.out (by decide) (HL.out.kept0 (K1.out.trans kv)))
      have HA2 := Lib.hid (fun (V : World) (hV : Kept [] V1 V) => all_c V (N3.out.kept0 hV) (optN_fine HF.out p1 p2) (by decide) (HL.out.kept0 ((K1.out.trans kv).trans hV)))
      have HCP := Lib.hid (fun (V : World) (hV : Kept [] V1 V) => net_copy (N1.out.kept0 (kv.trans hV)) ⟨by have := HF.out.ok.len; omega, by have := HF.out.ok.ik; omega, by have := HF.out.ok.rk; omega, by have := HF.out.ok.ok; omega⟩ (fun b hb => by have := (HF.out.ok.il b hb).2.1; omega) (fun b hb => by have := (HF.out.ok.ol b hb).2.1; omega))
      have HA3 := Lib.hid (fun (V : World) (hV : Kept [] V1 V) (x : Nat) (Fx Rx : List Nat) (hx : NetAt V x Fx Rx N) => all_c V hx HF.out (by decide) (HL.out.kept0 ((K1.out.trans kv).trans hV)))
      have HTE := Lib.hid (fun (V : World) (hV : Kept [] V1 V) => tells10 V (HL.out.kept0 ((K1.out.trans kv).trans hV)))
      unfold AllIs at HA1 HA2 HA3
      simp only [optN_lines, optN_check] at HA2
      rw [← hcn, ← htx, ← htl] at HA1
      simp only [← hcn, ← htx, ← htl] at HA2 HA3
      clear hV1 hN3 kv htx htl hcn d2 d3 d4 f2 f3 f4 g2 g3 g4
      go_wp2_with fail
      refine HA1.out.mono ?_
      rintro e u1 ⟨v1, rfl, r1, k1⟩
      obtain ⟨a1, c1, rfl⟩ := ownsRow_any r1
      have R1 := Lib.hid r1
      have K1' := Lib.hid k1
      clear r1 k1
      go_wp2_with fail
      refine (HA2.out _ K1'.out).mono ?_
      rintro e u2 ⟨v2', rfl, r2, k2⟩
      obtain ⟨a2, c2, rfl⟩ := ownsRow_any r2
      have R2 := Lib.hid r2
      have K2' := Lib.hid k2
      clear r2 k2
      go_wp2_with fail
      refine (HCP.out _ (K1'.out.trans K2'.out)).mono ?_
      rintro e u3 ⟨n3, Fx, Rx, rfl, hx, k3, _⟩
      have HX := Lib.hid hx
      have K3' := Lib.hid k3
      clear hx k3
      go_wp2_with fail
      refine (HA3.out _ ((K1'.out.trans K2'.out).trans K3'.out) _ _ _ HX.out).mono ?_
      rintro e u4 ⟨v4', rfl, r4, k4⟩
      obtain ⟨a4, c4, rfl⟩ := ownsRow_any r4
      have h1 := own_str0 ((R1.out.kept (kept_grown ((K2'.out.trans K3'.out).trans k4)) (Classical.em _))) HTL.out.symm
      have h2 := own_str0 ((R2.out.kept (kept_grown (K3'.out.trans k4)) (Classical.em _))) HTL.out.symm
      have h3 := own_str0 r4 HTL.out.symm
      have HT4 := Lib.hid (HTE.out u4 (((K1'.out.trans K2'.out).trans K3'.out).trans k4))
      have K4' := Lib.hid k4
      clear r4 k4
      go_wp2_with fail
      refine HT4.out.mono ?_
      rintro e u5 ⟨rfl, k5⟩
      have KE := Lib.hid (((((K1.out.trans KV.out).trans K1'.out).trans K2'.out).trans K3'.out).trans (K4'.out.trans k5))
      clear k5
      go_wp2_with fail
      go_ret
      exact ⟨rfl, KE.out⟩
end Go.Proofs.YtnjoklcddodfeaaGreatDoor
