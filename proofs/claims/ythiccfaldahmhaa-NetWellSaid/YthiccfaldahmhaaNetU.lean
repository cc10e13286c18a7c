/-
  Law 06: tells, the chapter's rows.
-/
import Derived.Test.YthiccfaldahmhaaNetT
namespace Go.Proofs.Ythiccfaldahmhaa
open Go.ChangeShapes Go.WideShapes Go.ChangeAt Go.RowKit
open Go.Maps (Keyed)
open Go.WideMaps
set_option linter.unusedVariables false
set_option linter.unusedSimpArgs false

variable {w w' W W' : World} {p n k : Nat} {F R F' R' S : List Nat} {g : Gr} {N : Nt}
theorem NStep.up (hk : Kept [] w W) (hf : ∀ b ∈ F, w.heap.size ≤ b) (hs : NStep W W' F R F' R') : Kept [] w W' ∧ ∀ b ∈ F', w.heap.size ≤ b :=
  ⟨kept_up hk hs.st.kept hf, fun b hb => (hs.st.fresh b hb).elim (hf b) (Nat.le_trans hk.size)⟩
theorem own_net {e : TypeId} {a : Option Addr} {m c : Nat} {xs : List Value} (ho : Own W e a m c xs) (hf : ∀ b ∈ ft a, b ∉ F ∧ b ∉ R) (hs : NStep W W' F R F' R') : Own W' e a m c xs ∧ ∀ b ∈ ft a, b ∉ F' ∧ b ∉ R' :=
  ⟨ho.kept hs.st.kept (fun b hb => (hf b hb).1), fun b hb => ⟨fun h => (hs.st.fresh b h).elim (hf b hb).1 (fun h2 => by have := ho.lt b hb; omega), fun h => (hs.rows b h).elim (hf b hb).2 (fun h2 => by have := ho.lt b hb; omega)⟩⟩
theorem row_new (w : World) (l : List Nat) (T : TypeId) : SlN (w.alloc (.cells (nats .u32 l).toArray T)) .u32 (some ⟨w.heap.size, 0, none⟩) l := sln_new w .u32 l T
set_option maxHeartbeats 3200000 in
set_option maxRecDepth 100000 in
theorem tells6 (w : World) : Calls Try.prog 15 #[] w fun e w' => e = .returned (.bool true) ∧ Kept [] w w' := by
  have TF := Lib.hid t_facts
  have l5 := t_fine.ok.len
  have b0 := Lib.hid (show tN0.g.nodes.length ≤ 100 ∧ tN0.inb.length ≤ 100 from by decide)
  have b1 := Lib.hid (show tN1.g.nodes.length ≤ 100 ∧ tN1.regs.length ≤ 100 from by decide)
  have b2 := Lib.hid (show tN2.g.nodes.length ≤ 100 ∧ gone tN2.g [2, 6] = false from by decide)
  have b3 := Lib.hid (show tN3.g.nodes.length ≤ 100 ∧ tN3.regs.length ≤ 100 from by decide)
  have b4 := Lib.hid (show tN4.g.nodes.length ≤ 100 ∧ tN4.outb.length ≤ 100 from by decide)
  have A3 := Lib.hid (show (andG tN2.g 2 6).2 = 8 from by kernel_rfl)
  have E3 := Lib.hid (show tN3 = { tN2 with g := (andG tN2.g 2 6).1 } from by unfold tN3 gateN; rw [b2.out.2]; rfl)
  clear l5
  go_enter Try.func15, Try.ntmps15; (try simp only [List.append])
  go_wp2_with fail
  refine (new_net ⟨#[116, 111, 112]⟩ false false _ (by decide) TF.out.1).mono ?_
  rintro e w1 ⟨n, F, rfl, hn, hk, hf⟩
  have N1 := Lib.hid (show NetAt w1 n F [] tN0 from hn)
  have K1 := Lib.hid (And.intro hk hf)
  obtain ⟨p0, hc0⟩ : ∃ p, w1.cell? ⟨n, 0, none⟩ = some (.pointer (some ⟨p, 0, none⟩)) := by
    obtain ⟨p, G, ia, ic, ra, rc, oa, oc, ri, ro, rfl, hR, hc⟩ := hn
    exact ⟨p, hc.c0⟩
  clear hn hk hf
  go_wp2_with fail
  refine (addin_c N1.out (by have := b0.out; omega) ⟨#[97]⟩ (by decide) 2 (by omega) (by omega)).mono ?_
  intro e w2 hx
  obtain ⟨F2, R2, a2, c2, k2, he, hn, hst, ho, hfr⟩ := hx
  rw [TF.out.2.1] at he ho
  have hk2 : k2 = 2 := by have := ho.len; simpa [nats] using this.symm
  subst hk2
  subst he
  have N2 := Lib.hid (show NetAt w2 n F2 R2 tN1 from hn)
  have K2 := Lib.hid (NStep.up K1.out.1 K1.out.2 hst)
  have O2 := Lib.hid (And.intro ho (fun b hb => (hfr b hb).2))
  clear hn hst ho hfr hc0
  go_wp2_with fail
  refine (addreg_c N2.out (by have := b1.out; omega) true).mono ?_
  intro e w3 hx
  obtain ⟨F3, he, hn, hst⟩ := hx
  rw [TF.out.2.2.1] at he
  subst he
  have N3 := Lib.hid (show NetAt w3 n F3 R2 tN2 from hn)
  have K3 := Lib.hid (NStep.up K2.out.1 K2.out.2 hst)
  have O3 := Lib.hid (own_net O2.out.1 O2.out.2 hst)
  clear hn hst O2 N2 N1 K1 K2
  obtain ⟨p, G, ia, ic, ra, rc, oa, oc, ri, ro, hF3, hR2, hc⟩ := N3.out
  have HC3 := Lib.hid hc
  have HF3 := Lib.hid hF3
  have HR2 := Lib.hid hR2
  have c0 := hc.c0
  clear hc hF3 hR2
  go_wp2_with fail
  have hlt3 := HC3.out.gr.lt
  refine (aig_And_ (HC3.out.gr.kept0 ((Kept.refl [] w3).alloc _)) (some ⟨w3.heap.size, 0, none⟩) 2 2 [2, 6] rfl (by have := b2.out; omega) (row_new w3 [2, 6] 44) (gone_false.1 b2.out.2) (by intro b hb hx; rw [mem_ft] at hb; subst hb; exact Nat.lt_irrefl _ (hlt3 _ hx))).mono ?_
  intro e w4 hx
  obtain ⟨G4, he, hg4, hst4⟩ := hx
  have he' : e = .returned (.tuple #[.int .u32 8, .int .i64 0]) := by
    rw [he]
    show Ending.returned (.tuple #[.int .u32 (((andG tN2.g 2 6).2 : Nat) : Int), .int .i64 0]) = _
    rw [A3.out]; rfl
  subst he'
  have st4 : Stepped w3 w4 G G4 := (⟨(Kept.refl [] w3).alloc _ |>.more (by simp), fun b hb => .inl hb⟩ : Stepped w3 _ G G).trans hst4
  have hgr4 : GraphAt w4 p G4 (andG tN2.g 2 6).1 := hg4
  have hc4 := HC3.out.graph hgr4 st4
  have hs4 : NStep w3 w4 F3 R2 (n :: (G4 ++ (ft ia ++ (ft ra ++ ft oa)))) R2 := by
    have h := NetC.graph_step (n := n) (ia := ia) (ra := ra) (oa := oa) (ri := ri) (ro := ro) st4
    rw [HF3.out, HR2.out]; exact h
  obtain ⟨F4, hF4⟩ : ∃ F, F = n :: (G4 ++ (ft ia ++ (ft ra ++ ft oa))) := ⟨_, rfl⟩
  have N4 := Lib.hid (show NetAt w4 n F4 R2 tN3 from by
    rw [E3.out]
    exact ⟨p, G4, ia, ic, ra, rc, oa, oc, ri, ro, hF4, HR2.out, hc4⟩)
  rw [← hF4] at hs4
  have K4 := Lib.hid (NStep.up K3.out.1 K3.out.2 hs4)
  have O4 := Lib.hid (own_net O3.out.1 O3.out.2 hs4)
  clear he hg4 hst4 st4 hgr4 hc4 hs4 hF4 HC3 HF3 HR2 c0 hlt3 N3 K3 O3
  go_wp2_with fail
  refine (setreg_c N4.out (by have := b3.out; omega) 6 8 1 (by omega) (by omega) (by omega)).mono ?_
  intro e w5 hx
  obtain ⟨F5, R5, he, hn, hst⟩ := hx
  rw [TF.out.2.2.2.2.1] at he
  subst he
  have N5 := Lib.hid (show NetAt w5 n F5 R5 tN4 from hn)
  have K5 := Lib.hid (NStep.up K4.out.1 K4.out.2 hst)
  have O5 := Lib.hid (own_net O4.out.1 O4.out.2 hst)
  clear hn hst N4 K4 O4
  go_wp2_with fail
  refine (addout_c (N5.out.kept0 ((Kept.refl [] w5).alloc _)) (by have := b4.out; omega) ⟨#[120]⟩ (by decide) (some ⟨w5.heap.size, 0, none⟩) 1 1 [9] rfl (by omega) (row_new w5 [9] 44) (by simp)).mono ?_
  intro e w6 hx
  obtain ⟨F6, R6, he, hn, hst0⟩ := hx
  rw [TF.out.2.2.2.2.2.1] at he
  subst he
  have hst : NStep w5 w6 F5 R5 F6 R6 := ((NStep.refl w5 F5 R5).keep ((Kept.refl [] w5).alloc _)).trans hst0
  have N6 := Lib.hid (show NetAt w6 n F6 R6 tN5 from hn)
  have K6 := Lib.hid (NStep.up K5.out.1 K5.out.2 hst)
  have O6 := Lib.hid (own_net O5.out.1 O5.out.2 hst)
  clear hn hst hst0 N5 K5 O5
  go_wp2_with fail
  refine (check_c N6.out t_fine (by omega)).mono ?_
  rw [TF.out.2.2.2.2.2.2.1]
  rintro e w7 ⟨rfl, hk7⟩
  have N7 := Lib.hid (N6.out.kept0 hk7)
  have K7 := Lib.hid (NStep.up K6.out.1 K6.out.2 ((NStep.refl w6 F6 R6).keep hk7))
  have O7 := Lib.hid (own_net O6.out.1 O6.out.2 ((NStep.refl w6 F6 R6).keep hk7))
  clear hk7 N6 K6 O6
  obtain ⟨p, G, ia, ic, ra, rc, oa, oc, ri, ro, hF7, hR7, hc⟩ := N7.out
  have HC7 := Lib.hid hc
  have HF7 := Lib.hid hF7
  have HR7 := Lib.hid hR7
  have c0 := hc.c0
  have l5 := t_fine.ok.len
  have HI := Lib.hid (aig_input hc.gr (by omega))
  clear hc hF7 hR7 l5
  go_wp2_with fail
  refine HI.out.mono ?_
  intro e w8 hx
  obtain ⟨G8, he, hg8, hst8⟩ := hx
  have he' : e = .returned (.tuple #[.int .u32 10, .int .i64 0]) := by
    rw [he]
    show Ending.returned (.tuple #[.int .u32 ((2 * tN5.g.nodes.length : Nat) : Int), .int .i64 0]) = _
    rw [TF.out.2.2.2.2.2.2.2.1]; rfl
  subst he'
  have hs8 : NStep w7 w8 F6 R6 (n :: (G8 ++ (ft ia ++ (ft ra ++ ft oa)))) R6 := by
    have h := NetC.graph_step (n := n) (ia := ia) (ra := ra) (oa := oa) (ri := ri) (ro := ro) hst8
    rw [HF7.out, HR7.out]; exact h
  have N8 := Lib.hid (show NetAt w8 n (n :: (G8 ++ (ft ia ++ (ft ra ++ ft oa)))) R6 tN6 from ⟨p, G8, ia, ic, ra, rc, oa, oc, ri, ro, rfl, HR7.out, HC7.out.graph hg8 hst8⟩)
  have K8 := Lib.hid (NStep.up K7.out.1 K7.out.2 hs8)
  have O8 := Lib.hid (own_net O7.out.1 O7.out.2 hs8)
  clear he hg8 hst8 hs8 HC7 HF7 HR7 c0 HI N7 K7 O7
  go_wp2_with fail
  refine (rows_c a2 (some ⟨w8.heap.size, 0, none⟩) c2 2 2 [2, 4] _ rfl (by omega) (O8.out.1.sln.kept0 ((Kept.refl [] w8).alloc _)) (row_new w8 [2, 4] 36)).mono ?_
  rintro e w9 ⟨rfl, m9, hm9⟩
  have K9 := Lib.hid (show Kept [] w8 w9 from by rw [hm9]; exact ((Kept.refl [] w8).alloc _).drewN _)
  clear hm9
  go_wp2_with fail
  refine (check_c (N8.out.kept0 K9.out) t_fine6 (by omega)).mono ?_
  rw [TF.out.2.2.2.2.2.2.2.2]
  rintro e w10 ⟨rfl, hk10⟩
  have K10 := Lib.hid ((K8.out.1.trans K9.out).trans hk10)
  clear hk10
  go_wp2_with fail
  go_ret
  exact ⟨rfl, K10.out⟩
end Go.Proofs.Ythiccfaldahmhaa
