/-
  Law 10: the chapter's row.
-/
import Derived.Test.YtnjoklcddodfeaaGreatDoorQEmitO
import Derived.Test.YtnjoklcddodfeaaGreatDoorP25
namespace Go.Proofs.YtnjoklcddodfeaaGreatDoor
open Go.ChangeShapes Go.WideShapes Go.ChangeAt Go.RowKit
open Go.Maps (Keyed)
open Go.WideMaps
set_option linter.unusedVariables false
set_option linter.unusedSimpArgs false

variable {w w' W W' : World} {p n k : Nat} {F R F' R' S : List Nat} {g : Gr} {N : Nt}
theorem NStep.up (hk : Kept [] w W) (hf : ∀ b ∈ F, w.heap.size ≤ b) (hs : NStep W W' F R F' R') : Kept [] w W' ∧ ∀ b ∈ F', w.heap.size ≤ b :=
  ⟨kept_up hk hs.st.kept hf, fun b hb => (hs.st.fresh b hb).elim (hf b) (Nat.le_trans hk.size)⟩
theorem row_new (w : World) (l : List Nat) (T : TypeId) : SlN (w.alloc (.cells (nats .u32 l).toArray T)) .u32 (some ⟨w.heap.size, 0, none⟩) l := sln_new w .u32 l T
set_option maxHeartbeats 3200000 in
set_option maxRecDepth 100000 in
theorem small10 (w : World) : Calls Tryz.prog 41 #[] w fun e w' => ∃ n F R, e = .returned (.pointer (some ⟨n, 0, none⟩)) ∧ NetAt w' n F R tN5 ∧ Kept [] w w' ∧ ∀ b ∈ F, w.heap.size ≤ b := by
  have TF := Lib.hid t_facts
  have l5 := t_fine.ok.len
  have b0 := Lib.hid (show tN0.g.nodes.length ≤ 100 ∧ tN0.inb.length ≤ 100 from by decide)
  have b1 := Lib.hid (show tN1.g.nodes.length ≤ 100 ∧ tN1.regs.length ≤ 100 from by decide)
  have b2 := Lib.hid (show tN2.g.nodes.length ≤ 100 ∧ gone tN2.g [2, 6] = false from by decide)
  have b3 := Lib.hid (show tN3.g.nodes.length ≤ 100 ∧ tN3.regs.length ≤ 100 from by decide)
  have b4 := Lib.hid (show tN4.g.nodes.length ≤ 100 ∧ tN4.outb.length ≤ 100 from by decide)
  have A3 := Lib.hid (show (andG tN2.g 2 6).2 = 8 from by kernel_rfl)
  have E3 := Lib.hid (show tN3 = { tN2 with g := (andG tN2.g 2 6).1 } from by unfold tN3 gateN; rw [b2.out.2]; rfl)
  clear l5
  go_enter Tryz.func41, Tryz.ntmps41; (try simp only [List.append])
  go_wp2_with fail
  refine (new_net ⟨#[116, 111, 112]⟩ false false _ (by decide) TF.out.1).mono ?_
  rintro e w1 ⟨n, F, rfl, hn, hk, hf⟩
  have N1 := Lib.hid (show NetAt w1 n F [] tN0 from hn)
  have K1 := Lib.hid (And.intro hk hf)
  obtain ⟨p0, hc0⟩ : ∃ p, w1.cell? ⟨n, 0, none⟩ = some (.pointer (some ⟨p, 0, none⟩)) := by
    obtain ⟨p, G, ia, ic, ra, rc, oa, oc, ri, ro, rfl, hR, hc⟩ := hn
    exact ⟨p, hc.c0⟩
  clear hn hk hf
  go_wp2_with fail
  refine (addin_c N1.out (by have := b0.out; omega) ⟨#[97]⟩ (by decide) 2 (by omega) (by omega)).mono ?_
  intro e w2 hx
  obtain ⟨F2, R2, a2, c2, k2, he, hn, hst, ho, hfr⟩ := hx
  rw [TF.out.2.1] at he ho
  have hk2 : k2 = 2 := by have := ho.len; simpa [nats] using this.symm
  subst hk2
  subst he
  have N2 := Lib.hid (show NetAt w2 n F2 R2 tN1 from hn)
  have K2 := Lib.hid (NStep.up K1.out.1 K1.out.2 hst)
  clear hn hst ho hfr hc0
  go_wp2_with fail
  refine (addreg_c N2.out (by have := b1.out; omega) true).mono ?_
  intro e w3 hx
  obtain ⟨F3, he, hn, hst⟩ := hx
  rw [TF.out.2.2.1] at he
  subst he
  have N3 := Lib.hid (show NetAt w3 n F3 R2 tN2 from hn)
  have K3 := Lib.hid (NStep.up K2.out.1 K2.out.2 hst)
  clear hn hst N2 N1 K1 K2
  obtain ⟨p, G, ia, ic, ra, rc, oa, oc, ri, ro, hF3, hR2, hc⟩ := N3.out
  have HC3 := Lib.hid hc
  have HF3 := Lib.hid hF3
  have HR2 := Lib.hid hR2
  have c0 := hc.c0
  clear hc hF3 hR2
  go_wp2_with fail
  have hlt3 := HC3.out.gr.lt
  refine (aig_And_ (HC3.out.gr.kept0 ((Kept.refl [] w3).alloc _)) (some ⟨w3.heap.size, 0, none⟩) 2 2 [2, 6] rfl (by have := b2.out; omega) (row_new w3 [2, 6] 39) (gone_false.1 b2.out.2) (by intro b hb hx; rw [mem_ft] at hb; subst hb; exact Nat.lt_irrefl _ (hlt3 _ hx))).mono ?_
  intro e w4 hx
  obtain ⟨G4, he, hg4, hst4⟩ := hx
  have he' : e = .returned (.tuple #[.int .u32 8, .int .i64 0]) := by
    rw [he]
    show Ending.returned (.tuple #[.int .u32 (((andG tN2.g 2 6).2 : Nat) : Int), .int .i64 0]) = _
    rw [A3.out]; rfl
  subst he'
  have st4 : Stepped w3 w4 G G4 := (⟨(Kept.refl [] w3).alloc _ |>.more (by simp), fun b hb => .inl hb⟩ : Stepped w3 _ G G).trans hst4
  have hgr4 : GraphAt w4 p G4 (andG tN2.g 2 6).1 := hg4
  have hc4 := HC3.out.graph hgr4 st4
  have hs4 : NStep w3 w4 F3 R2 (n :: (G4 ++ (ft ia ++ (ft ra ++ ft oa)))) R2 := by
    have h := NetC.graph_step (n := n) (ia := ia) (ra := ra) (oa := oa) (ri := ri) (ro := ro) st4
    rw [HF3.out, HR2.out]; exact h
  obtain ⟨F4, hF4⟩ : ∃ F, F = n :: (G4 ++ (ft ia ++ (ft ra ++ ft oa))) := ⟨_, rfl⟩
  have N4 := Lib.hid (show NetAt w4 n F4 R2 tN3 from by
    rw [E3.out]
    exact ⟨p, G4, ia, ic, ra, rc, oa, oc, ri, ro, hF4, HR2.out, hc4⟩)
  rw [← hF4] at hs4
  have K4 := Lib.hid (NStep.up K3.out.1 K3.out.2 hs4)
  clear he hg4 hst4 st4 hgr4 hc4 hs4 hF4 HC3 HF3 HR2 c0 hlt3 N3 K3
  go_wp2_with fail
  refine (setreg_c N4.out (by have := b3.out; omega) 6 8 1 (by omega) (by omega) (by omega)).mono ?_
  intro e w5 hx
  obtain ⟨F5, R5, he, hn, hst⟩ := hx
  rw [TF.out.2.2.2.2.1] at he
  subst he
  have N5 := Lib.hid (show NetAt w5 n F5 R5 tN4 from hn)
  have K5 := Lib.hid (NStep.up K4.out.1 K4.out.2 hst)
  clear hn hst N4 K4
  go_wp2_with fail
  refine (addout_c (N5.out.kept0 ((Kept.refl [] w5).alloc _)) (by have := b4.out; omega) ⟨#[120]⟩ (by decide) (some ⟨w5.heap.size, 0, none⟩) 1 1 [9] rfl (by omega) (row_new w5 [9] 39) (by simp)).mono ?_
  intro e w6 hx
  obtain ⟨F6, R6, he, hn, hst0⟩ := hx
  rw [TF.out.2.2.2.2.2.1] at he
  subst he
  have hst : NStep w5 w6 F5 R5 F6 R6 := ((NStep.refl w5 F5 R5).keep ((Kept.refl [] w5).alloc _)).trans hst0
  have N6 := Lib.hid (show NetAt w6 n F6 R6 tN5 from hn)
  have K6 := Lib.hid (NStep.up K5.out.1 K5.out.2 hst)
  clear hn hst hst0 N5 K5
  go_wp2_with fail
  go_ret
  exact ⟨n, F6, R6, rfl, N6.out, K6.out.1, K6.out.2⟩

def litT : List UInt8 := [46, 109, 111, 100, 101, 108, 32, 116, 111, 112, 10, 46, 105, 110, 112, 117, 116, 32, 97, 32, 50, 32, 52, 10, 46, 108, 97, 116, 99, 104, 32, 54, 32].append [56, 32, 49, 32, 49, 10, 46, 97, 110, 100, 32, 56, 32, 54, 32, 50, 10, 46, 111, 117, 116, 112, 117, 116, 32, 120, 32, 57, 10, 46, 101, 110, 100, 10]
set_option maxRecDepth 100000 in
theorem text_tN5 : textL (linesN tN5) = litT := by
  have h : textL (linesN tN5) = litT := by
    kernel_rfl
  exact h
set_option maxRecDepth 100000 in
/-- a text of one's own, made a string -/
theorem own_str0 {B n cap : Nat} {ad : Option Addr} {l : List UInt8} (h : w.ownsRow B 5 1 (.slice ad n cap) n (Lib.byteCells l)) (hl : l.length = n) : (convert 45 9 (.slice ad n cap)).run Tryz.prog w = .ok (.string ⟨l.toArray⟩) w := by
  rcases h.2 with ⟨hv, h0⟩ | ⟨g, cap', cur, hv, _⟩
  · injection hv with h1 h2 h3
    subst h1
    rw [h0] at hl ⊢
    rw [List.eq_nil_of_length_eq_zero hl]
    exact run_convert_bytes_nil (P := Tryz.prog) w 45 5 Tryz.underlying45 Tryz.underlying5 0 cap 9 Tryz.underlying9
  · injection hv with h1 h2 h3
    subst h1 h3
    have := run_convert_bytes_back (P := Tryz.prog) w 45 9 5 ⟨g, 0, none⟩ cap l Tryz.underlying45 Tryz.underlying5 Tryz.underlying9 (fun j hj => World.ownsRow.cells h (g := g) rfl j _ (by
      simp [Lib.byteCells, List.getElem?_eq_getElem hj]))
    rw [hl] at this
    exact this
set_option maxHeartbeats 3200000 in
set_option maxRecDepth 100000 in
theorem tells10 (w : World) (hL : PowLaid w) : Calls Tryz.prog 14 #[] w fun e w' => e = .returned (.bool true) ∧ Kept [] w w' := by
  have HL := Lib.hid hL
  have TX := Lib.hid text_tN5
  have TL := Lib.hid (show (textL (linesN tN5)).length = 67 from by rw [text_tN5]; rfl)
  have TC := Lib.hid t_facts.2.2.2.2.2.2.1
  clear hL
  go_enter Tryz.func14, Tryz.ntmps14; (try simp only [List.append])
  go_wp2_with fail
  refine (small10 w).mono ?_
  rintro e w1 ⟨n, F, R, rfl, hn, hk, hf⟩
  have N1 := Lib.hid hn
  have K1 := Lib.hid hk
  have HA := Lib.hid (all_c w1 hn t_fine (by decide) (HL.out.kept0 hk))
  have HS := Lib.hid (fun (W : World) (hW : Kept [] w1 W) => size_c W (N1.out.kept0 hW) t_fine (by decide) (HL.out.kept0 (K1.out.trans hW)))
  clear hn hk hf
  go_wp2_with fail
  refine HA.out.mono ?_
  rintro e w2 ⟨v, rfl, hr, k2⟩
  rw [TC.out]
  rw [TL.out, TX.out] at hr
  obtain ⟨ad, cap, rfl⟩ := ownsRow_any hr
  have HR := Lib.hid hr
  have K2 := Lib.hid k2
  clear hr k2
  go_wp2_with fail
  refine (HS.out _ K2.out).mono ?_
  rintro e w3 ⟨rfl, k3⟩
  have K3 := Lib.hid k3
  rw [TC.out, TL.out]
  have hcv : (convert 45 9 (.slice ad 67 cap)).run Tryz.prog w3 = .ok (.string ⟨([46, 109, 111, 100, 101, 108, 32, 116, 111, 112, 10, 46, 105, 110, 112, 117, 116, 32, 97, 32, 50, 32, 52, 10, 46, 108, 97, 116, 99, 104, 32, 54, 32].append [56, 32, 49, 32, 49, 10, 46, 97, 110, 100, 32, 56, 32, 54, 32, 50, 10, 46, 111, 117, 116, 112, 117, 116, 32, 120, 32, 57, 10, 46, 101, 110, 100, 10]).toArray⟩) w3 := own_str0 (w := w3) (l := litT) (show w3.ownsRow w1.heap.size 5 1 (.slice ad 67 cap) 67 (Lib.byteCells litT) from HR.out.kept (kept_grown k3) (Classical.em _)) rfl
  clear k3
  go_wp2_with fail
  go_ret
  exact ⟨rfl, (K1.out.trans K2.out).trans K3.out⟩
end Go.Proofs.YtnjoklcddodfeaaGreatDoor
